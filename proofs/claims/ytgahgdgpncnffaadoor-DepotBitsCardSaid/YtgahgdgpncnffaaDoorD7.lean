/- depot: an empty depot; Open of nothing. -/
import Derived.Test.YtgahgdgpncnffaaDoorD6
namespace Go.Proofs.YtgahgdgpncnffaaDoor
open Go.RowKit Go.Lib DepM Go.Sort

theorem size_u8 (w : World) : (Go.sizeOf (Tryd.prog.elem 23)).run Tryd.prog w = .ok 1 w := by
  obtain ⟨i0, hi, _, hz1, _⟩ := info_parts info_u8
  have e : Tryd.prog.elem 23 = 5 := by simp [Program.elem, Tryd.underlying23]
  rw [e]
  simp [Go.sizeOf, typeInfo, hi, hz1]
theorem und23 : Tryd.prog.underlying 23 = some (.slice (Tryd.prog.elem 23)) := by simp [Program.elem, Tryd.underlying23]
theorem slice_lo (g n c p : Nat) (hp : p ≤ n) : ∃ o, (∀ W, (Instr.slice 23 (.slice (some ⟨g, 0, none⟩) n c) (some (.int .i64 (p : Int))) none none).run Tryd.prog W = .ok (.slice (some ⟨g, o, none⟩) (n - p) (c - p)) W) ∧ (o = p ∨ c = p) := by
  by_cases h : c = p
  · refine ⟨0, fun W => ?_, .inr h⟩
    rw [run_slice_l W 23 _ _ _ und23 .i64 _ (by omega) (by omega), size_u8]
    simp [Result.andThen, sliced, h]
  · refine ⟨p, fun W => ?_, .inl rfl⟩
    rw [run_slice_l W 23 _ _ _ und23 .i64 _ (by omega) (by omega), size_u8]
    simp only [Result.andThen, sliced, Int.toNat_natCast, if_neg h, Option.map_some, Nat.mul_one]
    congr 3
    unfold Addr.add
    split
    · rename_i h0; subst h0; rfl
    · simp
theorem slice_hi (g o n c h : Nat) (hh : h ≤ c) (W : World) : (Instr.slice 23 (.slice (some ⟨g, o, none⟩) n c) none (some (.int .i64 (h : Int))) none).run Tryd.prog W = .ok (.slice (some ⟨g, o, none⟩) h c) W := by
  rw [run_slice_h W 23 _ _ _ und23 .i64 _ (by omega) (by omega), size_u8]
  simp [Result.andThen, sliced, Addr.add]
theorem DepMem.new (w : World) (B : Nat) (hB : B ≤ w.heap.size) : DepMem (w.alloc (.cells #[.map none, .slice none 0 0, .int .i64 0] 37)) B w.heap.size [] (.map none) (.slice none 0 0) := by
  refine ⟨?_, ?_, ?_, fun i => ?_, hB, World.ownsRow_nil _ _ _ _, by simp [Value.ownBlock], .inl ⟨rfl, fun _ => rfl⟩, fun b hb => (by cases hb), ⟨_, _, heap_alloc_new w _⟩⟩
  · rw [World.cell?_alloc_at _ _ _ _ rfl]; rfl
  · rw [World.cell?_alloc_at _ _ _ _ rfl]; rfl
  · rw [World.cell?_alloc_at _ _ _ _ rfl]; rfl
  · unfold World.frozen?
    rw [heap_alloc_new]
    simp
theorem DepMem.new' (w : World) {B db : Nat} (hB : B ≤ w.heap.size) (hdb : db = w.heap.size) : DepMem (w.alloc (.cells #[.map none, .slice none 0 0, .int .i64 0] 37)) B db [] (.map none) (.slice none 0 0) := by
  rw [hdb]; exact DepMem.new w B hB
/-- what Open hands back -/
def OpenPost (w : World) (bs : Bs) (e : Ending) (w' : World) : Prop :=
  w.Since w.heap.size w' ∧ ∃ db acc mv jv r, e = .returned (.tuple #[.pointer (some ⟨db, 0, none⟩), .int .i64 ((J acc).length : Int)]) ∧ DepMem w' w.heap.size db acc mv jv ∧ Opened bs acc r
theorem IndexByte_nil (w : World) : Calls Tryd.prog 12 #[.slice none 0 0, .int .u8 10] w fun e w' => e = .returned (.int .i64 (-1)) ∧ w' = w := Any.bytes_IndexByte_nil layIdx 10 w
set_option maxHeartbeats 1000000 in
set_option maxRecDepth 100000 in
theorem Open_nil (w : World) : Calls Tryd.prog 7 #[.slice none 0 0] w (OpenPost w []) := by
  obtain ⟨db, hdb⟩ : ∃ db, db = w.heap.size := ⟨_, rfl⟩
  have hD := Lib.hid (DepMem.new' w (Nat.le_refl w.heap.size) hdb)
  have HS : Hid (w.Since w.heap.size (w.alloc (.cells #[.map none, .slice none 0 0, .int .i64 0] 37))) := Lib.hid ((World.Since.refl _ _).alloc (Nat.le_refl _) _)
  have c1 := hD.out.c1
  have HO : Hid (Opened [] [] []) := Lib.hid ⟨Valid.nil, rfl, fun l r' h => by simp at h⟩
  have HX := Lib.hid IndexByte_nil
  have hsl : ∀ W, (Instr.slice 23 (.slice none 0 0) (some (.int .i64 0)) none none).run Tryd.prog W = .ok (.slice none 0 0) W := fun W => by
    rw [run_slice_l W 23 _ _ _ und23 .i64 _ (by omega) (by omega), size_u8]
    simp [Result.andThen, sliced]
  go_enter Tryd.func7, Tryd.ntmps7
  go_upto_region 2 with fail
  rw [← hdb]
  clear hdb
  generalize w.alloc (.cells #[.map none, .slice none 0 0, .int .i64 0] 37) = w1 at *
  go_loopg [5] 1 (fun gh rv wr => gh = 1 ∧ w1 = wr)
  case atStart => exact ⟨rfl, rfl⟩
  case round =>
    obtain ⟨rfl, rfl⟩ := hrel
    go_wp2_with fail
    refine (HX.out _).mono ?_
    rintro e w2 ⟨rfl, rfl⟩
    go_wp2
    go_quiet (fail)
    go_wp2
    go_ret2
    exact ⟨since_drewN' HS.out _, db, [], _, _, [], rfl, hD.out.since (w' := w2.drewN nq) ⟨rfl, rfl, rfl, Nat.le_refl _, fun _ _ => rfl⟩, HO.out⟩
end Go.Proofs.YtgahgdgpncnffaaDoor
