/- Plans of parts; McNaughton's plan. Plain. -/
import Init
namespace Go.Proofs.Ytjndmehhdgiphaa.McM

/-- a machine, a job, from, to -/
abbrev Quad := Int × Int × Int × Int
def job (x : Quad) : Int := x.2.1
def fr (x : Quad) : Int := x.2.2.1
def to' (x : Quad) : Int := x.2.2.2
def pSum : List Quad → Int → Int
  | [], _ => 0
  | x :: ps, j => (if job x = j then to' x - fr x else 0) + pSum ps j
theorem pSum_append (j : Int) : ∀ a b : List Quad, pSum (a ++ b) j = pSum a j + pSum b j
  | [], b => by simp [pSum]
  | x :: a, b => by
    show (if job x = j then to' x - fr x else 0) + pSum (a ++ b) j = _
    rw [pSum_append j a b]
    show _ = (if job x = j then to' x - fr x else 0) + pSum a j + pSum b j
    omega
/-- at two at once -/
def clash (y x : Quad) : Prop := (y.1 = x.1 ∨ job y = job x) ∧ fr x < to' y ∧ fr y < to' x
/-- what fits asks -/
structure FitsOk (l : List Int) (M E : Int) (ps : List Quad) : Prop where
  each : ∀ x ∈ ps, 0 ≤ x.1 ∧ x.1 < M ∧ 0 ≤ job x ∧ job x < l.length ∧ 0 ≤ fr x ∧ fr x ≤ to' x ∧ to' x ≤ E
  apart : ps.Pairwise (fun y x => ¬ clash y x)
  full : ∀ j, j < l.length → pSum ps j = l.getD j 0
theorem pSum_bd {ps : List Quad} {j : Int} (h : ∀ x ∈ ps, fr x ≤ to' x) : 0 ≤ pSum ps j := by
  induction ps with
  | nil => exact Int.le_refl _
  | cons x ps ih =>
    have h1 := h x (List.mem_cons_self ..)
    have h2 := ih (fun y hy => h y (List.mem_cons_of_mem _ hy))
    show 0 ≤ (if job x = j then to' x - fr x else 0) + pSum ps j
    split <;> omega
theorem pSum_take {ps : List Quad} {j : Int} (h : ∀ x ∈ ps, fr x ≤ to' x) (k : Nat) : pSum (ps.take k) j ≤ pSum ps j := by
  have h1 := pSum_append j (ps.take k) (ps.drop k)
  rw [List.take_append_drop] at h1
  have h2 := pSum_bd (ps := ps.drop k) (j := j) (fun x hx => h x (List.mem_of_mem_drop hx))
  omega
def pre (l : List Int) (i : Nat) : Int := (l.take i).sum
theorem pre_succ {l : List Int} {i : Nat} (h : i < l.length) : pre l (i + 1) = pre l i + l.getD i 0 := by
  unfold pre
  rw [List.take_succ_eq_append_getElem h, List.sum_append, List.getD_eq_getElem?_getD, List.getElem?_eq_getElem h]
  simp
theorem pre_mono {l : List Int} (h0 : ∀ x ∈ l, 0 ≤ x) : ∀ {i k : Nat}, i ≤ k → k ≤ l.length → pre l i ≤ pre l k := by
  intro i k hik
  induction k with
  | zero => intro _; have : i = 0 := by omega
            subst this; exact Int.le_refl _
  | succ k ih =>
    intro hk
    by_cases e : i = k + 1
    · subst e; exact Int.le_refl _
    · have h1 := ih (by omega) (by omega)
      rw [pre_succ (by omega)]
      have h2 : 0 ≤ l.getD k 0 := by
        rw [List.getD_eq_getElem?_getD, List.getElem?_eq_getElem (show k < l.length by omega)]
        exact h0 _ (List.getElem_mem _)
      omega
theorem getD_bd {l : List Int} {B : Int} (hB : 0 ≤ B) (h0 : ∀ x ∈ l, 0 ≤ x ∧ x ≤ B) (i : Nat) : 0 ≤ l.getD i 0 ∧ l.getD i 0 ≤ B := by
  rw [List.getD_eq_getElem?_getD]
  by_cases h : i < l.length
  · rw [List.getElem?_eq_getElem h]
    exact h0 _ (List.getElem_mem _)
  · rw [List.getElem?_eq_none (by omega)]
    exact ⟨Int.le_refl _, hB⟩
theorem pre_bd {l : List Int} {B : Int} (hB : 0 ≤ B) (h0 : ∀ x ∈ l, 0 ≤ x ∧ x ≤ B) : ∀ i, i ≤ l.length → 0 ≤ pre l i ∧ pre l i ≤ B * i
  | 0, _ => by simp [pre]
  | i + 1, h => by
    have h1 := pre_bd hB h0 i (by omega)
    have h2 := getD_bd hB h0 i
    rw [pre_succ (by omega)]
    have e : B * ((i + 1 : Nat) : Int) = B * i + B := by rw [Int.natCast_add, Int.mul_add]; simp
    omega
/-- the plan so far: the jobs ahead of i, and a of i -/
structure McSt (l : List Int) (E : Int) (i : Nat) (a mc now : Int) (ps : List Quad) : Prop where
  line : mc * E + now = pre l i + a
  now0 : 0 ≤ now
  nowE : now < E ∨ E = 0
  mc0 : 0 ≤ mc
  mcD : mc ≤ pre l i + a
  cnt : (ps.length : Int) ≤ pre l i + a
  parts : ∀ x ∈ ps, 0 ≤ x.1 ∧ fr x < to' x ∧ 0 ≤ fr x ∧ to' x ≤ E ∧ x.1 * E + to' x ≤ pre l i + a ∧ ∃ j : Nat, job x = j ∧ j ≤ i ∧ j < l.length ∧ pre l j ≤ x.1 * E + fr x ∧ x.1 * E + to' x ≤ pre l (j + 1)
  order : ps.Pairwise (fun y x => y.1 * E + to' y ≤ x.1 * E + fr x)
  sums : ∀ j : Nat, pSum ps j = if j < i then l.getD j 0 else if j = i then a else 0
theorem mc_start {l : List Int} {E : Int} (hE : 0 ≤ E) : McSt l E 0 0 0 0 [] :=
  ⟨by simp [pre], by omega, by omega, by omega, by simp [pre], by simp [pre], by simp, List.Pairwise.nil, fun j => by simp [pSum]⟩
theorem mc_next {l : List Int} {E : Int} {i : Nat} {mc now : Int} {ps : List Quad} (hi : i < l.length) (h : McSt l E i (l.getD i 0) mc now ps) : McSt l E (i + 1) 0 mc now ps := by
  have e := pre_succ hi
  refine ⟨by rw [h.line]; omega, h.now0, h.nowE, h.mc0, by have := h.mcD; omega, by have := h.cnt; omega, fun x hx => ?_, h.order, fun j => ?_⟩
  · obtain ⟨h1, h2, h3, h4, h5, j, h6, h7, h8⟩ := h.parts x hx
    exact ⟨h1, h2, h3, h4, by omega, j, h6, by omega, h8⟩
  · rw [h.sums j]
    by_cases h1 : j < i
    · rw [if_pos h1, if_pos (show j < i + 1 by omega)]
    · by_cases h2 : j = i
      · subst h2; rw [if_neg h1, if_pos rfl, if_pos (show j < j + 1 by omega)]
      · rw [if_neg h1, if_neg h2, if_neg (show ¬ j < i + 1 by omega)]
        split <;> rfl
/-- one part more -/
theorem mc_part {l : List Int} {E : Int} {i : Nat} {a mc now k : Int} {ps : List Quad} (hi : i < l.length) (hE : 0 < E) (h : McSt l E i a mc now ps) (ha : 0 ≤ a) (hk : 0 < k) (hk1 : a + k ≤ l.getD i 0) (hk2 : now + k ≤ E) (mc' now' : Int)
    (hn : (now + k = E ∧ mc' = mc + 1 ∧ now' = 0) ∨ (now + k < E ∧ mc' = mc ∧ now' = now + k)) : McSt l E i (a + k) mc' now' (ps ++ [(mc, (i : Int), now, now + k)]) := by
  have e := pre_succ hi
  have hl := h.line
  have h0 := h.now0
  have h1 := h.mc0
  have h2 := h.mcD
  have h3 := h.cnt
  have hline : mc' * E + now' = mc * E + now + k := by
    rcases hn with ⟨a1, rfl, rfl⟩ | ⟨a1, rfl, rfl⟩
    · rw [Int.add_mul]; omega
    · omega
  refine ⟨by omega, by rcases hn with ⟨_, _, rfl⟩ | ⟨_, _, rfl⟩ <;> omega, by rcases hn with ⟨_, _, rfl⟩ | ⟨_, _, rfl⟩ <;> omega, by rcases hn with ⟨_, rfl, _⟩ | ⟨_, rfl, _⟩ <;> omega, by rcases hn with ⟨_, rfl, _⟩ | ⟨_, rfl, _⟩ <;> omega, by rw [List.length_append]; simp; omega, fun x hx => ?_, ?_, fun j => ?_⟩
  · rcases List.mem_append.1 hx with hx | hx
    · obtain ⟨h1, h2, h3, h4, h5, h6⟩ := h.parts x hx
      exact ⟨h1, h2, h3, h4, by omega, h6⟩
    · rw [List.mem_singleton.1 hx]
      refine ⟨h1, by show now < now + k; omega, h0, hk2, by show mc * E + (now + k) ≤ _; omega, i, rfl, Nat.le_refl _, hi, by show _ ≤ mc * E + now; omega, by show mc * E + (now + k) ≤ _; omega⟩
  · rw [List.pairwise_append]
    refine ⟨h.order, List.pairwise_singleton .., fun y hy x hx => ?_⟩
    rw [List.mem_singleton.1 hx]
    obtain ⟨_, _, _, _, h5, _⟩ := h.parts y hy
    show y.1 * E + to' y ≤ mc * E + now
    omega
  · rw [pSum_append, h.sums j]
    have e2 : pSum [(mc, (i : Int), now, now + k)] j = if (i : Int) = j then now + k - now else 0 := by
      show (if (i : Int) = j then now + k - now else 0) + 0 = _
      omega
    rw [e2]
    by_cases h1 : j < i
    · rw [if_pos h1, if_pos h1, if_neg (by omega)]; omega
    · by_cases h2 : j = i
      · subst h2; rw [if_neg h1, if_pos rfl, if_neg h1, if_pos rfl, if_pos rfl]; omega
      · rw [if_neg h1, if_neg h2, if_neg h1, if_neg h2, if_neg (by omega)]; omega
theorem mc_fits {l : List Int} {E M : Int} {mc now : Int} {ps : List Quad} (h0 : ∀ x ∈ l, 0 ≤ x ∧ x ≤ E) (hall : pre l l.length ≤ M * E) (h : McSt l E l.length 0 mc now ps) : FitsOk l M E ps := by
  have hE : ∀ x ∈ ps, 0 < E := fun x hx => by
    obtain ⟨_, h2, h3, h4, _⟩ := h.parts x hx
    omega
  have hmul : ∀ {a b : Int}, 0 < E → a < b → a * E + E ≤ b * E := fun {a b} hE hab => by
    have h1 : (a + 1) * E ≤ b * E := Int.mul_le_mul_of_nonneg_right (by omega) (by omega)
    rw [Int.add_mul] at h1
    omega
  refine ⟨fun x hx => ?_, ?_, fun j hj => ?_⟩
  · obtain ⟨h1, h2, h3, h4, h5, j, h6, _, h7, h8, h9⟩ := h.parts x hx
    refine ⟨h1, ?_, by omega, by omega, h3, by omega, h4⟩
    apply Classical.byContradiction
    intro hno
    have h10 : M * E ≤ x.1 * E := Int.mul_le_mul_of_nonneg_right (by omega) (by have := hE x hx; omega)
    omega
  · refine List.Pairwise.imp_of_mem ?_ h.order
    rintro y x hy hx hle ⟨hs, c1, c2⟩
    have hEp := hE x hx
    obtain ⟨y1, y2, y3, y4, _, j, y6, _, y7, y8, y9⟩ := h.parts y hy
    obtain ⟨x1, x2, x3, x4, _, j', x6, _, x7, x8, x9⟩ := h.parts x hx
    rcases Int.lt_trichotomy y.1 x.1 with hlt | heq | hgt
    · have h1 := hmul hEp hlt
      rcases hs with hs | hs
      · omega
      · have hj : j = j' := by omega
        subst hj
        have h2 := (h0 (l.getD j 0) (by
          rw [List.getD_eq_getElem?_getD, List.getElem?_eq_getElem y7]
          exact List.getElem_mem _)).2
        have h3 := pre_succ y7
        omega
    · rw [heq] at hle
      omega
    · have h1 := hmul hEp hgt
      omega
  · rw [h.sums j, if_pos hj]
/-- what is told of the end -/
theorem mc_end {most all m E : Int} (hm : 1 ≤ m) (hE : E = max most ((all + m - 1) / m)) : (E = most ∨ (E - 1) * m < all) ∧ most ≤ E ∧ all ≤ E * m := by
  have h1 : (all + m - 1) / m * m ≤ all + m - 1 := Int.ediv_mul_le _ (by omega)
  have h2 : all + m - 1 < ((all + m - 1) / m + 1) * m := Int.lt_ediv_add_one_mul_self _ (by omega)
  rw [Int.add_mul] at h2
  generalize (all + m - 1) / m = q at *
  have h3 : q * m ≤ E * m := Int.mul_le_mul_of_nonneg_right (by omega) (by omega)
  refine ⟨?_, by omega, by omega⟩
  by_cases e : E = most
  · exact .inl e
  · right
    have : E = q := by omega
    rw [this, Int.sub_mul]
    omega
end Go.Proofs.Ytjndmehhdgiphaa.McM
