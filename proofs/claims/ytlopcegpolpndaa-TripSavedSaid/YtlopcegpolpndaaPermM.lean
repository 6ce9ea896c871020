/- Rows that have each of n things once. Plain. -/
namespace Go.Proofs.Ytlopcegpolpndaa.PermM
/-- a row of each of n things once -/
structure IsPerm (n : Nat) (l : List Nat) : Prop where
  len : l.length = n
  nodup : l.Nodup
  lt : ∀ x ∈ l, x < n

theorem nodup_le : ∀ (m : Nat) (l : List Nat), l.Nodup → (∀ x ∈ l, x < m) → l.length ≤ m := by
  intro m
  induction m with
  | zero => intro l _ h; cases l with
    | nil => exact Nat.le_refl _
    | cons a l => exact absurd (h a (List.mem_cons_self ..)) (by omega)
  | succ m ih =>
    intro l hn h
    have h1 : (l.erase m).Nodup := hn.erase m
    have h2 : ∀ x ∈ l.erase m, x < m := fun x hx => by
      have hx1 := h x (List.mem_of_mem_erase hx)
      have hx2 : x ≠ m := fun e => by subst e; exact (hn.not_mem_erase hx)
      omega
    have h3 := ih _ h1 h2
    have h4 := List.length_erase (a := m) (l := l)
    split at h4 <;> omega

theorem IsPerm.all {n : Nat} {l : List Nat} (h : IsPerm n l) : ∀ x, x < n → x ∈ l := by
  intro x hx
  by_cases hm : x ∈ l
  · exact hm
  exfalso
  have h1 : (x :: l).Nodup := List.nodup_cons.2 ⟨hm, h.nodup⟩
  have h2 := nodup_le n (x :: l) h1 (fun y hy => by
    rcases List.mem_cons.1 hy with rfl | hy
    · exact hx
    · exact h.lt y hy)
  have := h.len
  simp at h2
  omega
theorem isPerm_range (n : Nat) : IsPerm n (List.range n) := ⟨List.length_range, List.nodup_range, fun _ h => List.mem_range.1 h⟩

theorem nodup_iff_get {l : List Nat} : l.Nodup ↔ ∀ i j, i < l.length → j < l.length → l.getD i 0 = l.getD j 0 → i = j := by
  rw [List.nodup_iff_pairwise_ne, List.pairwise_iff_getElem]
  constructor
  · intro h i j hi hj he
    rw [List.getD_eq_getElem?_getD, List.getD_eq_getElem?_getD, List.getElem?_eq_getElem hi, List.getElem?_eq_getElem hj] at he
    simp only [Option.getD_some] at he
    rcases Nat.lt_trichotomy i j with h1 | h1 | h1
    · exact absurd he (h i j hi hj h1)
    · exact h1
    · exact absurd he.symm (h j i hj hi h1)
  · intro h i j hi hj hij he
    have := h i j hi hj (by rw [List.getD_eq_getElem?_getD, List.getD_eq_getElem?_getD, List.getElem?_eq_getElem hi, List.getElem?_eq_getElem hj, he])
    omega
theorem getD_set (o : List Nat) (y i v : Nat) (hy : y < o.length) : (o.set y v).getD i 0 = if i = y then v else o.getD i 0 := by
  rw [List.getD_eq_getElem?_getD, List.getElem?_set]
  by_cases h : y = i
  · subst h; simp [hy]
  · rw [if_neg h, if_neg (fun e => h e.symm), List.getD_eq_getElem?_getD]

def swp (l : List Nat) (a b : Nat) : List Nat := (l.set a (l.getD b 0)).set b (l.getD a 0)
theorem swp_get (l : List Nat) (a b i : Nat) (ha : a < l.length) (hb : b < l.length) : (swp l a b).getD i 0 = if i = b then l.getD a 0 else if i = a then l.getD b 0 else l.getD i 0 := by
  unfold swp
  rw [getD_set _ _ _ _ (by simpa using hb), getD_set _ _ _ _ ha]
theorem swp_len (l : List Nat) (a b : Nat) : (swp l a b).length = l.length := by simp [swp]
theorem mem_getD {l : List Nat} {x : Nat} : x ∈ l ↔ ∃ i, i < l.length ∧ l.getD i 0 = x := by
  constructor
  · intro h
    obtain ⟨i, hi, he⟩ := List.getElem_of_mem h
    exact ⟨i, hi, by rw [List.getD_eq_getElem?_getD, List.getElem?_eq_getElem hi, he]; rfl⟩
  · rintro ⟨i, hi, he⟩
    rw [List.getD_eq_getElem?_getD, List.getElem?_eq_getElem hi] at he
    simp only [Option.getD_some] at he
    rw [← he]; exact List.getElem_mem _
theorem IsPerm.swp {n : Nat} {l : List Nat} (h : IsPerm n l) {a b : Nat} (ha : a < n) (hb : b < n) : IsPerm n (swp l a b) := by
  have hl := h.len
  refine ⟨by rw [swp_len, hl], ?_, fun x hx => ?_⟩
  · rw [nodup_iff_get]
    intro i j hi hj he
    rw [swp_len] at hi hj
    rw [swp_get _ _ _ _ (by omega) (by omega), swp_get _ _ _ _ (by omega) (by omega)] at he
    have key := nodup_iff_get.1 h.nodup
    have k1 := key a
    split at he <;> split at he <;> (try split at he) <;> (try split at he) <;> first
      | omega
      | (have := key _ _ (by omega) (by omega) he; omega)
  · obtain ⟨i, hi, rfl⟩ := mem_getD.1 hx
    rw [swp_len] at hi
    rw [swp_get _ _ _ _ (by omega) (by omega)]
    have hm : ∀ j, j < n → l.getD j 0 < n := fun j hj => h.lt _ (mem_getD.2 ⟨j, by omega, rfl⟩)
    split
    · exact hm a ha
    · split
      · exact hm b hb
      · exact hm i (by omega)

end Go.Proofs.Ytlopcegpolpndaa.PermM
