/- depot: Journal, Moves, Have. -/
import Derived.Test.YtgahgdgpncnffaaDoorD5
namespace Go.Proofs.YtgahgdgpncnffaaDoor
open Go.RowKit Go.Lib DepM Go.Sort

theorem Journal_any {w : World} {B db : Nat} {acc : List Mv} {mv jv : Value} (h : DepMem w B db acc mv jv) (hJ : (J acc).length ≤ 1000000) :
    Calls Tryd.prog 9 #[.pointer (some ⟨db, 0, none⟩)] w fun e w' => ∃ v, e = .returned v ∧ Row w' w.heap.size v (J acc) ∧ w.Since w.heap.size w' := by
  have C := Lib.hid (Clone_any h.row hJ)
  have c1 := h.c1
  clear h
  go_enter Tryd.func9, Tryd.ntmps9
  go_wp2_with fail
  refine C.out.mono ?_
  rintro e w' ⟨v, rfl, hr, hs⟩
  have HR := Lib.hid hr
  have HS := Lib.hid hs
  clear hr hs
  go_wp2
  go_ret
  exact ⟨v, rfl, HR.out, HS.out⟩
theorem Moves_any {w : World} {B db : Nat} {acc : List Mv} {mv jv : Value} (h : DepMem w B db acc mv jv) :
    Calls Tryd.prog 10 #[.pointer (some ⟨db, 0, none⟩)] w fun e w' => e = .returned (.int .i64 (acc.length : Int)) ∧ w' = w := by
  have c1 := h.c2
  clear h
  go_enter Tryd.func10, Tryd.ntmps10
  go_wp2
  go_ret
  exact ⟨rfl, rfl⟩
theorem Have_any {w : World} {B db : Nat} {acc : List Mv} {mv jv : Value} (h : DepMem w B db acc mv jv) (t : ByteArray) (ht : t.size ≤ maxLen) (a : Int) (ha : a = hv acc t.data.toList) :
    Calls Tryd.prog 16 #[.pointer (some ⟨db, 0, none⟩), .string t] w fun e w' => e = .returned (.int .i64 a) ∧ w' = w := by
  have c1 := h.c0
  have hlk := h.map.lookup ht
  rw [← ha] at hlk
  clear h ha
  go_enter Tryd.func16, Tryd.ntmps16
  go_wp2
  go_ret
  exact ⟨rfl, rfl⟩
end Go.Proofs.YtgahgdgpncnffaaDoor
