/- Hu's schedule, built time by time. Plain. (From the template XHuS.) -/
import Derived.Test.YtjndmehhdgiphaaHuM
namespace Go.Proofs.Ytjndmehhdgiphaa.HuM

/-- the level by steps -/
def levF (nx : Nat → Int) : Nat → Int → Nat
  | 0, _ => 0
  | f + 1, j => if j < 0 then 0 else levF nx f (nx j.toNat) + 1
theorem levF_neg {nx : Nat → Int} {f : Nat} {j : Int} (h : j < 0) : levF nx f j = 0 := by
  cases f with
  | zero => rfl
  | succ f => unfold levF; rw [if_pos h]
theorem levF_pos {nx : Nat → Int} {f j : Nat} : levF nx (f + 1) (j : Int) = levF nx f (nx j) + 1 := by
  show (if (j : Int) < 0 then 0 else levF nx f (nx (j : Int).toNat) + 1) = _
  rw [if_neg (by omega), Int.toNat_natCast]
theorem levF_stable {nx : Nat → Int} : ∀ (f : Nat) (j : Int), levF nx f j < f → levF nx (f + 1) j = levF nx f j
  | 0, _, h => by omega
  | f + 1, j, h => by
    by_cases e : j < 0
    · rw [levF_neg e, levF_neg e]
    · obtain ⟨i, rfl⟩ : ∃ i : Nat, j = i := ⟨j.toNat, by omega⟩
      rw [levF_pos] at h
      rw [levF_pos, levF_pos, levF_stable f (nx i) (by omega)]
theorem lev_ok {n : Nat} {nx : Nat → Int} (hr : ∀ i, i < n → -1 ≤ nx i ∧ nx i < n) (hb : ∀ i : Nat, i < n → levF nx (n + 1) i ≤ n) : LevOk n nx (fun i => levF nx (n + 1) i) := by
  refine ⟨fun i hi hn => ?_, fun i hi hn => ?_⟩
  · show levF nx (n + 1) i = 1
    rw [levF_pos, levF_neg hn]
  · obtain ⟨j, hj⟩ : ∃ j : Nat, nx i = j := ⟨(nx i).toNat, by omega⟩
    have h1 := hr i hi
    have h2 := hb i hi
    refine ⟨j, hj, by omega, ?_⟩
    show levF nx (n + 1) i = levF nx (n + 1) j + 1
    rw [levF_pos, hj] at h2
    rw [levF_pos, hj, levF_stable n j (by omega)]
/-- so far: at which time each one is done, or -1 -/
structure HuSt (n m : Nat) (nx : Nat → Int) (lv : Nat → Nat) (now : Nat) (ti : Nat → Int) : Prop where
  rng : ∀ i, i < n → -1 ≤ ti i ∧ ti i < now
  some : ∀ t : Nat, t < now → ∃ i, i < n ∧ ti i = t
  prec : ∀ i j : Nat, i < n → j < n → nx i = j → 0 ≤ ti j → 0 ≤ ti i ∧ ti i < ti j
  few : ∀ t : Nat, cnt n (fun x => decide (ti x = t)) ≤ m
  greedy : ∀ t j : Nat, t < now → j < n → (ti j < 0 ∨ (t : Int) < ti j) → (∀ p, p < n → nx p = j → 0 ≤ ti p ∧ ti p < t) → cnt n (fun x => decide (ti x = t)) = m ∧ ∀ i, i < n → ti i = t → lv j ≤ lv i
section
variable {n m : Nat} {nx : Nat → Int} {lv : Nat → Nat} {now : Nat} {ti : Nat → Int}
theorem cnt_zero {p : Nat → Bool} {n : Nat} (h : ∀ i, i < n → p i = false) : cnt n p = 0 := by
  have : ¬ 1 ≤ cnt n p := fun h1 => by
    obtain ⟨j, hj, hp⟩ := cnt_ex h1
    rw [h j hj] at hp
    cases hp
  omega
theorem hu_start : HuSt n m nx lv 0 (fun _ => -1) :=
  ⟨fun _ _ => by simp, fun t ht => by omega, fun i j _ _ _ h => by simp at h, fun t => by rw [cnt_zero (fun i _ => by simp)]; omega, fun t j ht => by omega⟩
/-- may be done now -/
def Rdy (n : Nat) (nx : Nat → Int) (ti : Nat → Int) (i : Nat) : Prop := i < n ∧ ti i < 0 ∧ ∀ p, p < n → nx p = (i : Int) → 0 ≤ ti p
theorem cnt_list : ∀ (r : List Nat), r.Nodup → (∀ x ∈ r, x < n) → cnt n (fun x => decide (x ∈ r)) = r.length
  | [], _, _ => cnt_zero (fun i _ => by simp)
  | x :: r, hd, hr => by
    obtain ⟨h1, h2⟩ := List.nodup_cons.1 hd
    rw [cnt_rem (j := x) (hr x (List.mem_cons_self ..)) (by simp)]
    have := cnt_list r h2 (fun y hy => hr y (List.mem_cons_of_mem _ hy))
    rw [List.length_cons, ← this]
    congr 1
    exact cnt_congr (fun i _ => by
      by_cases e : i = x
      · subst e; simp [h1]
      · simp [e])
theorem hu_step (h : HuSt n m nx lv now ti) {r : List Nat} (hd : r.Nodup) (hr : ∀ x ∈ r, Rdy n nx ti x) (hm : r.length ≤ m) (h0 : r ≠ []) (hmax : ∀ j, Rdy n nx ti j → j ∉ r → r.length = m ∧ ∀ x ∈ r, lv j ≤ lv x) :
    HuSt n m nx lv (now + 1) (fun i => if i ∈ r then (now : Int) else ti i) := by
  have hin : ∀ i, i ∈ r → (if i ∈ r then (now : Int) else ti i) = now := fun i hi => if_pos hi
  have hout : ∀ i, i ∉ r → (if i ∈ r then (now : Int) else ti i) = ti i := fun i hi => if_neg hi
  have hold : ∀ t : Nat, t < now → ∀ x, ((if x ∈ r then (now : Int) else ti x) = t) ↔ ti x = t := fun t ht x => by
    by_cases e : x ∈ r
    · rw [hin x e]
      have := (hr x e).2.1
      constructor <;> intro h <;> omega
    · rw [hout x e]
  have hoc : ∀ t : Nat, t < now → cnt n (fun x => decide ((if x ∈ r then (now : Int) else ti x) = t)) = cnt n (fun x => decide (ti x = t)) := fun t ht =>
    cnt_congr (fun x _ => by simp only [hold t ht x])
  have hnc : cnt n (fun x => decide ((if x ∈ r then (now : Int) else ti x) = (now : Nat))) = r.length := by
    rw [← cnt_list r hd (fun x hx => (hr x hx).1)]
    refine cnt_congr (fun x hx => ?_)
    by_cases e : x ∈ r
    · simp [e]
    · have := (h.rng x hx).2
      simp [e]
      omega
  refine ⟨fun i hi => ?_, fun t ht => ?_, fun i j hi hj he hp => ?_, fun t => ?_, fun t j ht hj hlt hpr => ?_⟩
  · have := h.rng i hi
    show -1 ≤ (if i ∈ r then (now : Int) else ti i) ∧ (if i ∈ r then (now : Int) else ti i) < ((now + 1 : Nat) : Int)
    split <;> omega
  · by_cases e : t = now
    · subst e
      obtain ⟨x, hx⟩ := List.exists_mem_of_ne_nil r h0
      exact ⟨x, (hr x hx).1, hin x hx⟩
    · obtain ⟨i, hi, he⟩ := h.some t (by omega)
      exact ⟨i, hi, (hold t (by omega) i).2 he⟩
  · by_cases ej : j ∈ r
    · have h1 := (hr j ej).2.2 i hi he
      have h2 := (h.rng i hi).2
      rw [hin j ej]
      by_cases ei : i ∈ r
      · have := (hr i ei).2.1; omega
      · rw [hout i ei]; omega
    · rw [hout j ej] at hp ⊢
      have h1 := h.prec i j hi hj he hp
      have ei : i ∉ r := fun ei => by have := (hr i ei).2.1; omega
      rw [hout i ei]; exact h1
  · by_cases e : t = now
    · subst e; rw [hnc]; exact hm
    · by_cases e2 : t < now
      · rw [hoc t e2]; exact h.few t
      · rw [cnt_zero (fun i hi => by
          have := (h.rng i hi).2
          by_cases e3 : i ∈ r
          · simp [e3]; omega
          · simp [e3]; omega)]
        omega
  · by_cases e : t = now
    · subst e
      have ejr : j ∉ r := fun ej => by rw [hin j ej] at hlt; omega
      have hrd : Rdy n nx ti j := by
        refine ⟨hj, ?_, fun p hp he => ?_⟩
        · rw [hout j ejr] at hlt
          have := (h.rng j hj).2
          omega
        · have h1 := hpr p hp he
          by_cases ep : p ∈ r
          · rw [hin p ep] at h1; omega
          · rw [hout p ep] at h1; exact h1.1
      obtain ⟨g1, g2⟩ := hmax j hrd ejr
      refine ⟨by rw [hnc, g1], fun i hi he => ?_⟩
      by_cases ei : i ∈ r
      · exact g2 i ei
      · rw [hout i ei] at he
        have := (h.rng i hi).2
        omega
    · have htn : t < now := by omega
      have h1 := h.greedy t j htn hj (by
        by_cases ej : j ∈ r
        · left; exact (hr j ej).2.1
        · rw [hout j ej] at hlt; exact hlt) (fun p hp he => by
        have h2 := hpr p hp he
        by_cases ep : p ∈ r
        · rw [hin p ep] at h2; omega
        · rw [hout p ep] at h2; exact h2)
      rw [hoc t htn]
      exact ⟨h1.1, fun i hi he => h1.2 i hi ((hold t htn i).1 he)⟩
theorem hu_ok (hl : LevOk n nx lv) (hm : 1 ≤ m) (h : HuSt n m nx lv now ti) (hall : ∀ i, i < n → 0 ≤ ti i) : HuOk n m nx lv (fun i => (ti i).toNat) now := by
  have hc : ∀ (t : Nat) i, i < n → (((ti i).toNat = t) ↔ ti i = t) := fun t i hi => by
    have := hall i hi
    omega
  have hcc : ∀ t : Nat, cnt n (fun x => decide ((ti x).toNat = t)) = cnt n (fun x => decide (ti x = t)) := fun t => cnt_congr (fun x hx => by simp only [hc t x hx])
  refine ⟨hl, hm, fun i hi => ?_, fun t ht => ?_, fun i j hi hj he => ?_, fun t => ?_, fun t j ht hj hlt hpr => ?_⟩
  · have := h.rng i hi
    have := hall i hi
    show (ti i).toNat < now
    omega
  · obtain ⟨i, hi, he⟩ := h.some t ht
    exact ⟨i, hi, (hc t i hi).2 he⟩
  · have := h.prec i j hi hj he (hall j hj)
    show (ti i).toNat < (ti j).toNat
    omega
  · rw [hcc]; exact h.few t
  · have h1 := h.greedy t j ht hj (.inr (by have := hall j hj; have hlt' : t < (ti j).toNat := hlt; omega)) (fun p hp he => by
      have h2 : (ti p).toNat < t := hpr p hp he
      have := hall p hp
      omega)
    rw [hcc]
    exact ⟨h1.1, fun i hi he => h1.2 i hi ((hc t i hi).1 he)⟩
/-- somebody may be done, as long as somebody is not -/
theorem hu_may (hl : LevOk n nx lv) {i : Nat} (hi : i < n) (ht : ti i < 0) : ∃ j, Rdy n nx ti j := by
  have hpos : 1 ≤ top lv n (fun x => decide (ti x < 0)) := by
    have := top_ge (lv := lv) (p := fun x => decide (ti x < 0)) hi (by simp; exact ht)
    have := hl.pos hi
    omega
  obtain ⟨j, hj, hp, he⟩ := top_ex hpos
  simp at hp
  refine ⟨j, hj, hp, fun p hp' hpe => ?_⟩
  apply Classical.byContradiction
  intro hno
  have h1 := top_ge (lv := lv) (n := n) (p := fun x => decide (ti x < 0)) hp' (by simp; omega)
  obtain ⟨j', q1, q2, q3⟩ := hl.step p hp' (by omega)
  have : j' = j := by omega
  subst this
  omega
/-- one more is done -/
theorem cnt_done {q : Nat → Bool} {ti : Nat → Int} {x : Nat} {v : Int} (hx : x < n) (ht : ti x < 0) (hv : 0 ≤ v) :
    cnt n (fun y => q y && decide (ti y < 0)) = cnt n (fun y => q y && decide ((if y = x then v else ti y) < 0)) + if q x then 1 else 0 := by
  by_cases e : q x = true
  · rw [if_pos e, cnt_rem (j := x) hx (by simp [e, ht])]
    congr 1
    refine cnt_congr (fun y _ => ?_)
    by_cases e2 : y = x
    · subst e2; simp; omega
    · simp [e2]
  · rw [if_neg e, Nat.add_zero]
    refine cnt_congr (fun y _ => ?_)
    by_cases e2 : y = x
    · subst e2; simp [e]
    · simp [e2]
/-- how many must be ahead, and are not done -/
def wt (n : Nat) (nx : Nat → Int) (ti : Nat → Int) (k : Nat) : Nat := cnt n (fun y => decide (nx y = (k : Int)) && decide (ti y < 0))
theorem wt_zero {k : Nat} (hk : k < n) (ht : ti k < 0) : wt n nx ti k = 0 ↔ Rdy n nx ti k := by
  constructor
  · intro h
    refine ⟨hk, ht, fun p hp he => ?_⟩
    apply Classical.byContradiction
    intro hno
    have : 1 ≤ wt n nx ti k := cnt_pos hp (by simp [he]; omega)
    omega
  · intro h
    refine cnt_zero (fun i hi => ?_)
    by_cases e : nx i = (k : Int)
    · have := h.2.2 i hi e
      simp [e]; omega
    · simp [e]
theorem wt_start (k : Nat) : wt n nx (fun _ => -1) k = cnt n (fun y => decide (nx y = (k : Int))) := cnt_congr (fun i _ => by simp)
end
end Go.Proofs.Ytjndmehhdgiphaa.HuM
