/- trip: the order of savings is a strict weak order; savings in a row. -/
import Derived.Test.YtlopcegpolpndaaS7
import Derived.Shelf.SlSortCmp.InsertionK
namespace Go.Proofs.Ytlopcegpolpndaa
open Go.RowKit Go.Sort Go.Lib

theorem cfS_lt (a b : Sav) : cfS a b < 0 ↔ b.1 < a.1 ∨ (b.1 = a.1 ∧ (a.2.1 < b.2.1 ∨ (a.2.1 = b.2.1 ∧ a.2.2 < b.2.2))) := by
  unfold cfS or3 cmpV
  by_cases h1 : b.1 < a.1
  · simp [h1]
  · by_cases h2 : a.1 < b.1
    · simp [h1, h2]; omega
    · have e1 : b.1 = a.1 := by omega
      simp [e1]
      by_cases h3 : a.2.1 < b.2.1
      · simp [h3]
      · by_cases h4 : b.2.1 < a.2.1
        · simp [h3, h4]; omega
        · have e2 : a.2.1 = b.2.1 := by omega
          simp [e2]
          by_cases h5 : a.2.2 < b.2.2
          · simp [h5]
          · by_cases h6 : b.2.2 < a.2.2
            · simp [h5, h6]
            · simp [h5, h6]
theorem swoS : SWO (ltOf cfS) where
  irrefl x := by unfold ltOf; rw [decide_eq_false_iff_not, cfS_lt]; omega
  trans x y z h1 h2 := by unfold ltOf at *; rw [decide_eq_true_iff, cfS_lt] at *; omega
  ntrans x y z h1 h2 := by unfold ltOf at *; rw [decide_eq_false_iff_not, cfS_lt] at *; omega
/-- what the sort asks of the order -/
theorem cmpS (blk off size : Nat) (w : World) : CmpLays Try.prog 22 #[] savV 3 cfS blk off size w := fun _ _ _ _ x y => cfS_any x y _
end Go.Proofs.Ytlopcegpolpndaa
