/- trip: the order of savings (Savings$1), in whatever world. -/
import Derived.Test.YtlopcegpolpndaaS1
namespace Go.Proofs.Ytlopcegpolpndaa
open Go.RowKit Go.Sort Go.Lib

/-- how much it saves, from whose end, to whose begin -/
abbrev Sav := Int × Int × Int
def savV (x : Sav) : List Value := [.int .i64 x.1, .int .i64 x.2.1, .int .i64 x.2.2]
def cfS (a b : Sav) : Int := or3 (cmpV b.1 a.1) (cmpV a.2.1 b.2.1) (cmpV a.2.2 b.2.2)
theorem stillc {P : Program} {f : FuncId} {args : Array Value} {w : World} {v : Value} (h : Calls P f args w fun e w' => e = .returned v ∧ w = w') : Calls P f args w fun e w' => e = .returned v ∧ w' = w := h.mono fun _ _ ⟨h1, h2⟩ => ⟨h1, h2.symm⟩
set_option maxHeartbeats 4000000 in
theorem cfS_any (a b : Sav) (W : World) : Calls Try.prog 22 #[.agg #[.int .i64 a.1, .int .i64 a.2.1, .int .i64 a.2.2], .agg #[.int .i64 b.1, .int .i64 b.2.1, .int .i64 b.2.2]] W fun e w' => e = .returned (.int .i64 (cfS a b)) ∧ ∃ q os', w' = grow (W.drewN q) os' := by
  obtain ⟨a1, a2, a3⟩ := a
  obtain ⟨b1, b2, b3⟩ := b
  have Hv : Hid (cfS (a1, a2, a3) (b1, b2, b3) = or3 (cmpV b1 a1) (cmpV a2 b2) (cmpV a3 b3)) := Lib.hid rfl
  obtain ⟨w2, hw2⟩ : ∃ w2, w2 = (W.alloc (.cells #[.int .i64 a1, .int .i64 a2, .int .i64 a3] 55)).alloc (.cells #[.int .i64 b1, .int .i64 b2, .int .i64 b3] 55) := ⟨_, rfl⟩
  have x0 : w2.cell? ⟨W.heap.size, 0, none⟩ = some (.int .i64 a1) := by rw [hw2]; simp
  have x1 : w2.cell? ⟨W.heap.size, 1, none⟩ = some (.int .i64 a2) := by rw [hw2]; simp
  have x2 : w2.cell? ⟨W.heap.size, 2, none⟩ = some (.int .i64 a3) := by rw [hw2]; simp
  have y0 : w2.cell? ⟨W.heap.size + 1, 0, none⟩ = some (.int .i64 b1) := by rw [hw2]; simp
  have y1 : w2.cell? ⟨W.heap.size + 1, 1, none⟩ = some (.int .i64 b2) := by rw [hw2]; simp
  have y2 : w2.cell? ⟨W.heap.size + 1, 2, none⟩ = some (.int .i64 b3) := by rw [hw2]; simp
  have HW : Hid (∃ os', w2 = grow W os') := Lib.hid ⟨_, by rw [hw2, alloc_eq_grow, alloc_eq_grow, grow_grow]⟩
  go_enter Try.func22, Try.ntmps22
  go_upto_region 1 with fail
  rw [← hw2]
  clear hw2
  refine wp_region_still_tail 15 (by kernel_rfl) (by kernel_rfl) ?_
  simp only [List.take_succ_cons, List.take_zero, List.drop_succ_cons, List.drop_zero]
  repeat still_step
  still_call (stillc (Compare_any b1 a1 _))
  repeat still_step
  still_call (stillc (Compare_any a2 b2 _))
  repeat still_step
  still_call (stillc (Compare_any a3 b3 _))
  repeat still_step
  refine wpStill_nil ?_
  change wpList _ _ _ _ _ w2.drew
  generalize cmpV b1 a1 = c1 at *
  generalize cmpV a2 b2 = c2 at *
  generalize cmpV a3 b3 = c3 at *
  have hrow : ((w2.alloc (Obj.cells #[Value.int .i64 c1, Value.int .i64 c2, Value.int .i64 c3] 3)).drew).rowIs w2.heap.size 3 3 (fun i => if i = 0 then .int .i64 c1 else if i = 1 then .int .i64 c2 else .int .i64 c3) :=
    World.rowIs_alloc w2 #[Value.int .i64 c1, Value.int .i64 c2, Value.int .i64 c3] 3 _ (fun i hi => by
      have hi' : i < 3 := hi
      match i, hi' with
      | 0, _ => rfl
      | 1, _ => rfl
      | 2, _ => rfl)
  have C := Lib.hid (Or3_any w2.heap.size c1 c2 c3 _ _ hrow (by simp) (by simp) (by simp))
  clear hrow
  go_wp2_with fail
  refine C.out.mono ?_
  rintro e w' ⟨rfl, rfl⟩
  go_wp2
  go_ret
  obtain ⟨os', ho⟩ := HW.out
  refine ⟨by rw [Hv.out]; rfl, 1, os' ++ #[Obj.cells #[Value.int .i64 c1, Value.int .i64 c2, Value.int .i64 c3] 3], ?_⟩
  rw [ho, alloc_eq_grow, grow_grow]
  rfl
end Go.Proofs.Ytlopcegpolpndaa
