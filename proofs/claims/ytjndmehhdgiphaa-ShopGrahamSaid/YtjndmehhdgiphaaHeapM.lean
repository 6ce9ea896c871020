/- Heaps in rows: what up and down leave. Plain. (From the template XHeapM.) -/
import Init
namespace Go.Proofs.Ytjndmehhdgiphaa.HeapM

section
variable {α : Type} {d : α}
def sw (d : α) (l : List α) (i j : Nat) : List α := (l.set i (l.getD j d)).set j (l.getD i d)
theorem getD_set (l : List α) (y i : Nat) (v : α) (hy : y < l.length) : (l.set y v).getD i d = if i = y then v else l.getD i d := by
  rw [List.getD_eq_getElem?_getD, List.getElem?_set]
  by_cases h : y = i
  · subst h; simp [hy]
  · rw [if_neg h, if_neg (fun e => h e.symm), List.getD_eq_getElem?_getD]
theorem sw_len (l : List α) (i j : Nat) : (sw d l i j).length = l.length := by simp [sw]
theorem sw_get (l : List α) (i j k : Nat) (hi : i < l.length) (hj : j < l.length) : (sw d l i j).getD k d = if k = j then l.getD i d else if k = i then l.getD j d else l.getD k d := by
  unfold sw
  rw [getD_set _ _ _ _ (by simpa using hj), getD_set _ _ _ _ hi]
theorem sw_perm (l : List α) (i j : Nat) (hi : i < l.length) (hj : j < l.length) : (sw d l i j).Perm l := by
  have h := (Array.swap_perm (xs := l.toArray) (i := i) (j := j) (by simpa using hi) (by simpa using hj))
  rw [Array.perm_iff_toList_perm] at h
  have e : (sw d l i j) = (l.toArray.swap i j (by simpa using hi) (by simpa using hj)).toList := by
    rw [Array.toList_swap]
    unfold sw
    rw [List.getD_eq_getElem?_getD, List.getD_eq_getElem?_getD, List.getElem?_eq_getElem hi, List.getElem?_eq_getElem hj]
    rfl
  rw [e]
  exact h
theorem getD_append_lt (l r : List α) (k : Nat) (hk : k < l.length) : (l ++ r).getD k d = l.getD k d := by
  rw [List.getD_eq_getElem?_getD, List.getElem?_append_left hk, List.getD_eq_getElem?_getD]
theorem getD_append_at (l : List α) (x : α) : (l ++ [x]).getD l.length d = x := by
  rw [List.getD_eq_getElem?_getD, List.getElem?_append_right (Nat.le_refl _)]; simp
theorem getD_take (l : List α) (n k : Nat) (hk : k < n) : (l.take n).getD k d = l.getD k d := by
  rw [List.getD_eq_getElem?_getD, List.getElem?_take, if_pos hk, List.getD_eq_getElem?_getD]

/-- an order in which all are comparable -/
structure Ord (lt : α → α → Bool) : Prop where
  asym : ∀ a b, lt a b = true → lt b a = false
  trans : ∀ a b c, lt b a = false → lt c b = false → lt c a = false
variable {lt : α → α → Bool}
def Heap (lt : α → α → Bool) (d : α) (n : Nat) (l : List α) : Prop := ∀ j, 0 < j → j < n → lt (l.getD j d) (l.getD ((j - 1) / 2) d) = false
theorem heap_min (o : Ord lt) {n : Nat} {l : List α} (h : Heap lt d n l) : ∀ j, j < n → lt (l.getD j d) (l.getD 0 d) = false := by
  intro j
  induction j using Nat.strongRecOn with
  | _ j ih =>
    intro hj
    by_cases e : j = 0
    · subst e
      cases hlt : lt (l.getD 0 d) (l.getD 0 d) with
      | false => rfl
      | true => have := o.asym _ _ hlt; rw [hlt] at this; cases this
    · exact o.trans _ _ _ (ih ((j - 1) / 2) (by omega) (by omega)) (h j (by omega) hj)
/-- all but one stand right, which may go up -/
structure Up (lt : α → α → Bool) (d : α) (n : Nat) (l : List α) (j : Nat) : Prop where
  rest : ∀ k, 0 < k → k < n → k ≠ j → lt (l.getD k d) (l.getD ((k - 1) / 2) d) = false
  over : ∀ k, 0 < k → k < n → (k - 1) / 2 = j → 0 < j → lt (l.getD k d) (l.getD ((j - 1) / 2) d) = false
theorem up_stop {n j : Nat} {l : List α} (h : Up lt d n l j) (hs : j = 0 ∨ lt (l.getD j d) (l.getD ((j - 1) / 2) d) = false) : Heap lt d n l := fun k hk hkn => by
  by_cases e : k = j
  · subst e; rcases hs with hs | hs
    · omega
    · exact hs
  · exact h.rest k hk hkn e
theorem up_step (o : Ord lt) {n j : Nat} {l : List α} (h : Up lt d n l j) (hj : 0 < j) (hjn : j < n) (hn : n ≤ l.length) (hlt : lt (l.getD j d) (l.getD ((j - 1) / 2) d) = true) : Up lt d n (sw d l ((j - 1) / 2) j) ((j - 1) / 2) := by
  have hg := fun k => sw_get (d := d) l ((j - 1) / 2) j k (by omega) (by omega)
  refine ⟨fun k hk hkn hkp => ?_, fun k hk hkn hkp hp => ?_⟩
  · rw [hg, hg]
    by_cases e : k = j
    · subst e
      rw [if_pos rfl, if_neg (by omega), if_pos rfl]
      exact o.asym _ _ hlt
    · rw [if_neg e, if_neg hkp]
      by_cases e1 : (k - 1) / 2 = j
      · rw [if_pos e1]
        exact h.over k hk hkn e1 hj
      · rw [if_neg e1]
        by_cases e2 : (k - 1) / 2 = (j - 1) / 2
        · rw [if_pos e2]
          have h1 := h.rest k hk hkn e
          rw [e2] at h1
          exact o.trans _ _ _ (o.asym _ _ hlt) h1
        · rw [if_neg e2]
          exact h.rest k hk hkn e
  · rw [hg, hg]
    rw [if_neg (show ¬ ((j - 1) / 2 - 1) / 2 = j by omega), if_neg (show ¬ ((j - 1) / 2 - 1) / 2 = (j - 1) / 2 by omega)]
    have h0 := h.rest ((j - 1) / 2) hp (by omega) (by omega)
    by_cases e : k = j
    · rw [if_pos e]; exact h0
    · rw [if_neg e, if_neg (by omega)]
      have h1 := h.rest k hk hkn e
      rw [hkp] at h1
      exact o.trans _ _ _ h0 h1
theorem up_push {l : List α} {x : α} (h : Heap lt d l.length l) : Up lt d (l.length + 1) (l ++ [x]) l.length := by
  refine ⟨fun k hk hkn hne => ?_, fun k hk hkn hp _ => by omega⟩
  rw [getD_append_lt _ _ _ (by omega), getD_append_lt _ _ _ (by omega)]
  exact h k hk (by omega)
/-- all but one stand right, which may go down -/
structure Down (lt : α → α → Bool) (d : α) (n : Nat) (l : List α) (i : Nat) : Prop where
  rest : ∀ k, 0 < k → k < n → (k - 1) / 2 ≠ i → lt (l.getD k d) (l.getD ((k - 1) / 2) d) = false
  over : ∀ k, 0 < k → k < n → (k - 1) / 2 = i → 0 < i → lt (l.getD k d) (l.getD ((i - 1) / 2) d) = false
theorem down_of_heap (o : Ord lt) {n : Nat} {l : List α} (h : Heap lt d n l) (i : Nat) : Down lt d n l i :=
  ⟨fun k hk hkn _ => h k hk hkn, fun k hk hkn hp hi => by
    have h1 := h k hk hkn
    rw [hp] at h1
    exact o.trans _ _ _ (h i hi (by omega)) h1⟩
theorem down_none {n i : Nat} {l : List α} (h : Down lt d n l i) (hs : n ≤ 2 * i + 1) : Heap lt d n l := fun k hk hkn => h.rest k hk hkn (by omega)
/-- j is the lesser child of i -/
def Child (lt : α → α → Bool) (d : α) (n : Nat) (l : List α) (i j : Nat) : Prop := (j = 2 * i + 1 ∨ j = 2 * i + 2) ∧ j < n ∧ ∀ k, k < n → (k = 2 * i + 1 ∨ k = 2 * i + 2) → lt (l.getD k d) (l.getD j d) = false
theorem irrefl (o : Ord lt) (a : α) : lt a a = false := by
  cases h : lt a a with
  | false => rfl
  | true => have := o.asym _ _ h; rw [h] at this; exact this
theorem child_left (o : Ord lt) {n i : Nat} {l : List α} (h1 : 2 * i + 1 < n) (h : 2 * i + 2 < n → lt (l.getD (2 * i + 2) d) (l.getD (2 * i + 1) d) = false) : Child lt d n l i (2 * i + 1) :=
  ⟨.inl rfl, h1, fun k hk hkk => by
    rcases hkk with rfl | rfl
    · exact irrefl o _
    · exact h hk⟩
theorem child_right (o : Ord lt) {n i : Nat} {l : List α} (h1 : 2 * i + 2 < n) (h : lt (l.getD (2 * i + 2) d) (l.getD (2 * i + 1) d) = true) : Child lt d n l i (2 * i + 2) :=
  ⟨.inr rfl, h1, fun k hk hkk => by
    rcases hkk with rfl | rfl
    · exact o.asym _ _ h
    · exact irrefl o _⟩
theorem down_stop (o : Ord lt) {n i j : Nat} {l : List α} (h : Down lt d n l i) (hc : Child lt d n l i j) (hs : lt (l.getD j d) (l.getD i d) = false) : Heap lt d n l := fun k hk hkn => by
  by_cases e : (k - 1) / 2 = i
  · rw [e]
    have h1 := hc.2.2 k hkn (by omega)
    exact o.trans _ _ _ hs h1
  · exact h.rest k hk hkn e
theorem down_step (o : Ord lt) {n i j : Nat} {l : List α} (h : Down lt d n l i) (hc : Child lt d n l i j) (hn : n ≤ l.length) (hlt : lt (l.getD j d) (l.getD i d) = true) : Down lt d n (sw d l i j) j := by
  obtain ⟨hj, hjn, hmin⟩ := hc
  have hg := fun k => sw_get (d := d) l i j k (by omega) (by omega)
  refine ⟨fun k hk hkn hkp => ?_, fun k hk hkn hkp hp => ?_⟩
  · rw [hg, hg]
    rw [if_neg hkp]
    by_cases e : (k - 1) / 2 = i
    · rw [if_pos e]
      by_cases e1 : k = j
      · rw [if_pos e1]; exact o.asym _ _ hlt
      · rw [if_neg e1, if_neg (by omega)]
        exact hmin k hkn (by omega)
    · rw [if_neg e]
      by_cases e1 : k = j
      · omega
      · rw [if_neg e1]
        by_cases e2 : k = i
        · subst e2
          rw [if_pos rfl]
          exact h.over j (by omega) hjn (by omega) hk
        · rw [if_neg e2]
          exact h.rest k hk hkn e
  · rw [hg, hg]
    have e : (j - 1) / 2 = i := by omega
    rw [e, if_neg (by omega), if_neg (by omega), if_neg (show ¬ i = j by omega), if_pos rfl]
    have := h.rest k hk hkn (by omega)
    rw [hkp] at this
    exact this
/-- the first and the last have changed places -/
theorem down_pop {m : Nat} {l : List α} (h : Heap lt d (m + 1) l) (hl : l.length = m + 1) : Down lt d m (sw d l 0 m) 0 := by
  have hg := fun k => sw_get (d := d) l 0 m k (by omega) (by omega)
  refine ⟨fun k hk hkn hkp => ?_, fun k _ _ _ hp => by omega⟩
  rw [hg, hg, if_neg (by omega), if_neg (by omega), if_neg (by omega), if_neg hkp]
  exact h k hk (by omega)
/-- what is left, and the first -/
theorem pop_perm {m : Nat} {l l' : List α} (hl : l.length = m + 1) (hp : l'.Perm (sw d l 0 m)) (hlast : l'.getD m d = (sw d l 0 m).getD m d) : l'.getD m d = l.getD 0 d ∧ l.Perm (l.getD 0 d :: l'.take m) := by
  have e : l'.getD m d = l.getD 0 d := by rw [hlast, sw_get _ _ _ _ (by omega) (by omega), if_pos rfl]
  have hl' : l'.length = m + 1 := by rw [hp.length_eq, sw_len, hl]
  refine ⟨e, ?_⟩
  have h1 : l' = l'.take m ++ [l.getD 0 d] := by
    have h2 := List.take_append_drop m l'
    rw [List.drop_eq_getElem_cons (by omega), List.drop_of_length_le (by omega)] at h2
    rw [← e, List.getD_eq_getElem?_getD, List.getElem?_eq_getElem (show m < l'.length by omega)]
    exact h2.symm
  have h3 : l'.Perm l := hp.trans (sw_perm l 0 m (by omega) (by omega))
  rw [h1] at h3
  exact h3.symm.trans (List.perm_append_singleton _ _)
theorem heap_take {m : Nat} {l : List α} (h : Heap lt d m l) : Heap lt d m (l.take m) := fun k hk hkn => by
  rw [getD_take _ _ _ hkn, getD_take _ _ _ (by omega)]; exact h k hk hkn
end
end Go.Proofs.Ytjndmehhdgiphaa.HeapM
