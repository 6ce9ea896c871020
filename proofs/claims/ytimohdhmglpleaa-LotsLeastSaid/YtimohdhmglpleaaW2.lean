/- lots: what is wanted, as functions; bounds. -/
import Derived.Test.YtimohdhmglpleaaW1
import Derived.Test.YtimohdhmglpleaaLotsM
namespace Go.Proofs.Ytimohdhmglpleaa
open Go.RowKit PermM LotsM

/-- a list as a function -/
def fn (l : List Int) (t : Nat) : Int := l.getD t 0
theorem fn_at {l : List Int} {i : Nat} {x : Int} (h : l[i]? = some x) : fn l i = x := by unfold fn; rw [List.getD_eq_getElem?_getD, h]; rfl
theorem fn_get {l : List Int} {i : Nat} (h : i < l.length) : l[i]? = some (fn l i) := by unfold fn; rw [List.getD_eq_getElem?_getD, List.getElem?_eq_getElem h]; rfl
theorem fn_bd {l : List Int} {B : Int} (hB : 0 ≤ B) (h : ∀ x ∈ l, 0 ≤ x ∧ x ≤ B) (i : Nat) : 0 ≤ fn l i ∧ fn l i ≤ B := by
  unfold fn
  rw [List.getD_eq_getElem?_getD]
  by_cases e : i < l.length
  · rw [List.getElem?_eq_getElem e]; exact h _ (List.getElem_mem _)
  · rw [List.getElem?_eq_none (by omega)]; exact ⟨Int.le_refl _, hB⟩
section
variable {w K : Nat → Int}
theorem pre_bd (hw : ∀ t, 0 ≤ w t ∧ w t ≤ 1000000) : ∀ t, 0 ≤ pre w t ∧ pre w t ≤ 1000000 * t
  | 0 => by simp [pre]
  | t + 1 => by
    have h1 := pre_bd hw t
    have h2 := hw t
    show 0 ≤ pre w t + w t ∧ pre w t + w t ≤ 1000000 * ((t + 1 : Nat) : Int)
    omega
theorem kpN_bd (hw : ∀ t, 0 ≤ w t ∧ w t ≤ 1000000) (hK : ∀ t, 0 ≤ K t ∧ K t ≤ 1000000) {t : Nat} (ht : t ≤ 50) : ∀ n, 0 ≤ kpN w K t n ∧ kpN w K t n ≤ 50000000000000 * n
  | 0 => by simp [kpN]
  | n + 1 => by
    have h1 := kpN_bd hw hK ht n
    have h2 := pre_bd hw t
    have h3 := pre_mono (fun t => (hw t).1) (show t - n ≤ t by omega)
    have h4 := pre_bd hw (t - n)
    have h5 := hK (t - n - 1)
    have h6 : 0 ≤ (pre w t - pre w (t - n)) * K (t - n - 1) := Int.mul_nonneg (by omega) h5.1
    have h7 : (pre w t - pre w (t - n)) * K (t - n - 1) ≤ 50000000 * 1000000 := Int.mul_le_mul (by omega) h5.2 h5.1 (by omega)
    show 0 ≤ kpN w K t n + (pre w t - pre w (t - n)) * K (t - n - 1) ∧ kpN w K t n + (pre w t - pre w (t - n)) * K (t - n - 1) ≤ 50000000000000 * ((n + 1 : Nat) : Int)
    omega
theorem blk_bd {O : Nat → Int} (hw : ∀ t, 0 ≤ w t ∧ w t ≤ 1000000) (hK : ∀ t, 0 ≤ K t ∧ K t ≤ 1000000) (hO : ∀ t, 0 ≤ O t ∧ O t ≤ 1000000) {t i : Nat} (ht : t ≤ 50) : 0 ≤ blk w O K i t ∧ blk w O K i t ≤ 2500000001000000 := by
  have h1 := kpN_bd hw hK ht (t - i)
  have h2 := hO i
  unfold blk
  split <;> omega
end
/-- the tables of Plan up to t: nothing of later times -/
structure Tab (w O K : Nat → Int) (t : Nat) (le : Nat → Int) (fr : Nat → Nat) : Prop where
  tab : Table w O K t le fr
  bd : ∀ i, i ≤ t → 0 ≤ le i ∧ le i ≤ 3000000000000000
/-- the best of those looked at, s of them -/
def BestOf (w O K : Nat → Int) (t s : Nat) (le : Nat → Int) (best : Int) (a : Nat) : Prop :=
  (s = 0 ∧ best = -1) ∨ (0 < s ∧ t - s ≤ a ∧ a < t ∧ best = le a + blk w O K a t ∧ ∀ i, t - s ≤ i → i < t → best ≤ le i + blk w O K i t)
section
variable {w O K : Nat → Int} {t s : Nat} {le : Nat → Int} {fr : Nat → Nat} {best : Int} {a : Nat}
theorem tab_start : Tab w O K 0 (fun _ => 0) (fun _ => 0) :=
  ⟨⟨rfl, fun t h1 h2 => by omega, fun t h1 h2 => by omega, fun t i h1 h2 => by omega⟩, fun i _ => by omega⟩
theorem best_take (hs : s < t) (h : BestOf w O K t s le best a) (hb : s = 0 ∨ le (t - s - 1) + blk w O K (t - s - 1) t < best) : BestOf w O K t (s + 1) le (le (t - s - 1) + blk w O K (t - s - 1) t) (t - s - 1) := by
  right
  refine ⟨by omega, by omega, by omega, rfl, fun i h1 h2 => ?_⟩
  by_cases e : i = t - s - 1
  · rw [e]; exact Int.le_refl _
  · rcases h with ⟨h3, h4⟩ | ⟨h3, h4, h5, h6, h7⟩
    · omega
    · have h8 := h7 i (by omega) h2
      have h9 := h7 a h4 h5
      rcases hb with hb | hb
      · omega
      · omega
theorem best_bd (hw : ∀ t, 0 ≤ w t ∧ w t ≤ 1000000) (hK : ∀ t, 0 ≤ K t ∧ K t ≤ 1000000) (hO : ∀ t, 0 ≤ O t ∧ O t ≤ 1000000) (ht : t + 1 ≤ 50) (h : Tab w O K t le fr) (hb : BestOf w O K (t + 1) s le best a) : -1 ≤ best ∧ best ≤ 6000000000000000 ∧ (0 < s → 0 ≤ best) := by
  rcases hb with ⟨h0, h1⟩ | ⟨_, b1, b2, b3, b4⟩
  · omega
  · have c1 := h.bd a (by omega)
    have c2 := blk_bd (i := a) hw hK hO ht
    omega
theorem best_keep (hs : s < t) (h : BestOf w O K t s le best a) (hb : 0 ≤ best) (hb2 : best ≤ le (t - s - 1) + blk w O K (t - s - 1) t) : BestOf w O K t (s + 1) le best a := by
  rcases h with ⟨h3, h4⟩ | ⟨h3, h4, h5, h6, h7⟩
  · omega
  · right
    refine ⟨by omega, by omega, h5, h6, fun i h1 h2 => ?_⟩
    by_cases e : i = t - s - 1
    · rw [e]; exact hb2
    · exact h7 i (by omega) h2
theorem blk_at (hs : s < t) : blk w O K (t - s - 1) t = kpN w K t s + (pre w t - pre w (t - s)) * K (t - s - 1) + if 0 < pre w t - pre w (t - s) + w (t - s - 1) then O (t - s - 1) else 0 := by
  unfold blk
  rw [show t - (t - s - 1) = s + 1 by omega]
  have e1 : pre w (t - s) = pre w (t - s - 1) + w (t - s - 1) := by
    conv => lhs; rw [show t - s = t - s - 1 + 1 by omega]
    rfl
  have e2 : kpN w K t (s + 1) = kpN w K t s + (pre w t - pre w (t - s)) * K (t - s - 1) := rfl
  rw [e2, e1]
  rw [show pre w t - (pre w (t - s - 1) + w (t - s - 1)) + w (t - s - 1) = pre w t - pre w (t - s - 1) by omega]
theorem tab_next (hw : ∀ t, 0 ≤ w t ∧ w t ≤ 1000000) (hK : ∀ t, 0 ≤ K t ∧ K t ≤ 1000000) (hO : ∀ t, 0 ≤ O t ∧ O t ≤ 1000000) (ht : t + 1 ≤ 50) (h : Tab w O K t le fr) (hb : BestOf w O K (t + 1) (t + 1) le best a) (le' : Nat → Int) (fr' : Nat → Nat)
    (h1 : ∀ i, i ≤ t → le' i = le i) (h2 : le' (t + 1) = best) (h3 : ∀ i, i ≤ t → fr' i = fr i) (h4 : fr' (t + 1) = a) : Tab w O K (t + 1) le' fr' := by
  rcases hb with ⟨h0, _⟩ | ⟨_, b1, b2, b3, b4⟩
  · omega
  · have hbd : 0 ≤ best ∧ best ≤ 3000000000000000 := by
      have c1 := h.bd a (by omega)
      have c2 := blk_bd (i := a) hw hK hO ht
      have c3 := b4 0 (by omega) (by omega)
      have c4 := h.tab.zero
      have c5 := blk_bd (i := 0) hw hK hO ht
      omega
    refine ⟨⟨by rw [h1 0 (by omega)]; exact h.tab.zero, fun i i1 i2 => ?_, fun i i1 i2 => ?_, fun i j i1 i2 => ?_⟩, fun i hi => ?_⟩
    · by_cases e : i = t + 1
      · rw [e, h4]; exact b2
      · rw [h3 i (by omega)]; exact h.tab.lt i i1 (by omega)
    · by_cases e : i = t + 1
      · rw [e, h2, h4, h1 a (by omega)]; exact b3
      · have h5 := h.tab.lt i i1 (by omega)
        rw [h3 i (by omega), h1 i (by omega), h1 (fr i) (by omega)]; exact h.tab.eq i i1 (by omega)
    · by_cases e : i = t + 1
      · rw [e, h2, h1 j (by omega)]
        rw [e] at i2
        exact b4 j (by omega) i2
      · rw [h1 i (by omega), h1 j (by omega)]; exact h.tab.le i j (by omega) i2
    · by_cases e : i = t + 1
      · rw [e, h2]; exact hbd
      · rw [h1 i (by omega)]; exact h.bd i (by omega)
end
end Go.Proofs.Ytimohdhmglpleaa
