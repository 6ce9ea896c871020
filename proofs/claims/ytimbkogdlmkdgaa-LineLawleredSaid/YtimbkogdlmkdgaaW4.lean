/- line: sorted, Smith, Jackson. -/
import Derived.Test.YtimbkogdlmkdgaaW3
namespace Go.Proofs.Ytimbkogdlmkdgaa
open Go.RowKit PermM StabM LineM

def BadPost (w : World) (e : Ending) (w' : World) : Prop := w.Since w.heap.size w' ∧ ∃ k : Int, e = .returned (.tuple #[.slice none 0 0, .iface 46 (.int .i64 k)])
def SortedPost (js : List Tri) (lf : Tri → Tri → Int) (w : World) (e : Ending) (w' : World) : Prop :=
  w.Since w.heap.size w' ∧ ∃ g f, e = .returned (.tuple #[.slice (some ⟨g, 0, none⟩) js.length js.length, .nilIface]) ∧ w.heap.size ≤ g ∧ w'.rowIs g 3 js.length (natF f) ∧ SortPost (cfL lf js) js.length 0 js.length (fun i => i) f
set_option maxHeartbeats 4000000 in
set_option maxRecDepth 100000 in
theorem sorted_bad {gl : FuncId} {A : Option Addr} {cap : Nat} {js : List Tri} {w : World} (h : TriAt w A js) (hlen : js.length ≤ 9223372036854775807) (t : ¬ TasksOk js) :
    Calls Try.prog 17 #[.slice A js.length cap, .func (.func gl) #[] #[]] w (BadPost w) := by
  have hC : ∀ W, w.Since w.heap.size W → Calls Try.prog 23 #[.slice A js.length cap] W fun e w' => W.Since W.heap.size w' ∧ ∃ k : Int, e = .returned (.iface 46 (.int .i64 k)) := fun W hs => Check_bad (h.same hs) hlen t
  have HC := Lib.hid hC
  clear hC h
  go_enter Try.func17, Try.ntmps17
  go_wp2_with fail
  refine (HC.out _ (((World.Since.refl _ _).alloc (Nat.le_refl _) _).alloc (by simp) _)).mono ?_
  rintro e w1 ⟨hs1, k, rfl⟩
  go_wp2
  go_ret2
  exact ⟨since_join (((World.Since.refl _ _).alloc (Nat.le_refl _) _).alloc (by simp) _) hs1, k, rfl⟩
set_option maxHeartbeats 4000000 in
set_option maxRecDepth 100000 in
theorem sorted_ok {lf : Tri → Tri → Int} {gl : FuncId} (eg : ∀ args w, (callFunc gl args).run Try.prog w = .ok (.enter gl args) w) (hL : LessOk gl lf) {A : Option Addr} {cap : Nat} {js : List Tri} {w : World} (h : TriAt w A js) (t : TasksOk js) (hP : Pre js.length (leC (cfL lf js))) :
    Calls Try.prog 17 #[.slice A js.length cap, .func (.func gl) #[] #[]] w (SortedPost js lf w) := by
  have hfew := t.few
  have hmk := run_make_row' (P := Try.prog) 23 3 (.int .i64 0) 8 Try.underlying23 info_int rfl .i64 .i64 js.length (by omega) (by omega)
  have hC : ∀ W, w.Since w.heap.size W → Calls Try.prog 23 #[.slice A js.length cap] W fun e w' => W.Since W.heap.size w' ∧ e = .returned .nilIface := fun W hs => Check_ok (h.same hs) t
  have HC := Lib.hid hC
  have HJ := Lib.hid h
  have HO := Lib.hid t
  have HP := Lib.hid hP
  have HL := Lib.hid hL
  have eg2 : ∀ args w, (callFunc 26 args).run Try.prog w = .ok (.enter 26 args) w := fun _ _ => by kernel_rfl
  have Eg := Lib.hid eg
  have Eg2 := Lib.hid eg2
  clear hC h t hP hL eg eg2
  go_enter Try.func17, Try.ntmps17
  go_wp2_with fail
  refine (HC.out _ (((World.Since.refl _ _).alloc (Nat.le_refl _) _).alloc (by simp) _)).mono ?_
  rintro e w1 ⟨hs1, rfl⟩
  have hsz : w.heap.size + 2 ≤ w1.heap.size := by have := hs1.size; simpa using this
  have hs0 : w.Since w.heap.size w1 := since_join (((World.Since.refl _ _).alloc (Nat.le_refl _) _).alloc (by simp) _) hs1
  have c0 : w1.cell? ⟨w.heap.size, 0, none⟩ = some (.slice A js.length cap) := by
    rw [hs1.cell (show w.heap.size < _ by simp; omega)]; simp
  have c1 : w1.cell? ⟨w.heap.size + 1, 0, none⟩ = some (.func (.func gl) #[] #[]) := by
    rw [hs1.cell (by simp)]; simp
  clear hs1
  go_wp2
  clear hmk
  have hr3 := World.rowIs_made w1 (Value.int .i64 0) js.length 3
  have hs3 := hs0.alloc hs0.size (Obj.cells (madeCells #[Value.int .i64 0] js.length) 3)
  have k2 : (w1.alloc (Obj.cells (madeCells #[Value.int .i64 0] js.length) 3)).cell? ⟨w.heap.size, 0, none⟩ = some (.slice A js.length cap) := by
    rw [World.cell?_alloc_lt _ _ _ (by show w.heap.size < _; omega)]; exact c0
  have k3 : (w1.alloc (Obj.cells (madeCells #[Value.int .i64 0] js.length) 3)).cell? ⟨w.heap.size + 1, 0, none⟩ = some (.func (.func gl) #[] #[]) := by
    rw [World.cell?_alloc_lt _ _ _ (by show w.heap.size + 1 < _; omega)]; exact c1
  obtain ⟨p2, hp2⟩ : ∃ p, p = w.heap.size := ⟨_, rfl⟩
  obtain ⟨p3, hp3⟩ : ∃ p, p = w.heap.size + 1 := ⟨_, rfl⟩
  obtain ⟨B, hB⟩ : ∃ B, B = w1.heap.size := ⟨_, rfl⟩
  have hB1 : w.heap.size ≤ B := by omega
  have hB2 : p2 ≠ B := by omega
  have hB3 : p3 ≠ B := by omega
  rw [← hp3] at k3
  rw [← hp2] at k2
  rw [← hB] at hr3
  rw [← hp3, ← hp2, ← hB]
  have l2 := World.block_lt_of_cell? _ _ k2
  have l3 := World.block_lt_of_cell? _ _ k3
  simp only at l2 l3
  clear hp2 hp3 hB c0 c1 hsz hs0
  generalize w1.alloc (Obj.cells (madeCells #[Value.int .i64 0] js.length) 3) = w3 at *
  go_loopg [19] js.length (fun g iv wr => ∃ k : Nat, k ≤ js.length ∧ g = js.length - k ∧ iv = .int .i64 k ∧ OnlyB w3 wr B ∧ wr.rowIs B 3 js.length (fun i => .int .i64 (if i < k then (i : Int) else 0)))
  case atStart => exact ⟨0, Nat.zero_le _, rfl, rfl, OnlyB.refl _ _, hr3.congr (fun i _ => by simp)⟩
  case round =>
    obtain ⟨k, hk, rfl, rfl, ho, hrow⟩ := hrel
    by_cases hkl : k < js.length
    · have hkz : (k : Int) < (js.length : Int) := by omega
      have g1 := hrow.cell hkl
      have g2 := hrow.frozen k
      rw [if_neg (by omega)] at g1
      have Hrow := Lib.hid hrow
      clear hrow
      go_wp2
      go_roundg (js.length - (k + 1))
      case measure => go_light; omega
      case rel =>
        go_light
        refine ⟨k + 1, by omega, rfl, by go_num, ho.setCell k _, (Hrow.out.set k _).congr (fun i _ => ?_)⟩
        by_cases e : i = k
        · subst e; rw [if_pos rfl, if_pos (by omega)]
        · rw [if_neg e]
          by_cases h : i < k
          · rw [if_pos h, if_pos (by omega)]
          · rw [if_neg h, if_neg (by omega)]
    · obtain rfl : js.length = k := by omega
      have hrow2 : wr.rowIs B 3 js.length (natF (fun i => i)) := hrow.congr (fun i hi => by unfold natF; rw [if_pos hi])
      have hcmp : CmpOk 26 #[.pointer (some ⟨p3, 0, none⟩), .pointer (some ⟨p2, 0, none⟩)] (cfL lf js) js.length B wr := fun W hW x y hx hy => by
        have ho2 := ho.trans hW
        show Calls Try.prog 26 #[.int .i64 (x : Nat), .int .i64 (y : Nat), .pointer (some ⟨p3, 0, none⟩), .pointer (some ⟨p2, 0, none⟩)] W _
        exact cmpL_any Eg.out HL.out HO.out (HJ.out.same (ho2.since hs3 hB1)) (by rw [ho2.cell (a := ⟨p3, 0, none⟩) l3 hB3]; exact k3) (by rw [ho2.cell (a := ⟨p2, 0, none⟩) l2 hB2]; exact k2) hx hy
      have C := Lib.hid (SortStableFunc_any B js.length js.length js.length js.length (fun i => i) 26 #[.pointer (some ⟨p3, 0, none⟩), .pointer (some ⟨p2, 0, none⟩)] (cfL lf js) wr Eg2.out hcmp HP.out (fun i hi => hi) hfew (Nat.le_refl _) hrow2)
      clear hcmp hrow hrow2
      go_wp2_with fail
      refine C.out.mono ?_
      rintro e w5 ⟨rfl, ho5, f, hrow5, hf⟩
      have hsF : w.Since w.heap.size w5 := (ho.trans ho5).since hs3 hB1
      go_wp2
      go_ret2
      exact ⟨hsF, B, f, rfl, hB1, hrow5, hf⟩
/-! the comparisons are orders -/
theorem pre_jack (js : List Tri) : Pre js.length (leC (cfL jackF js)) := by
  refine ⟨fun x y _ _ => ?_, fun x y z _ _ _ h1 h2 => ?_⟩
  · unfold leC cfL jackF; omega
  · unfold leC cfL jackF at *; omega
theorem smith_le {x y : Tri} (hx : taskOk x) (hy : taskOk y) : ¬ smithF y x < 0 → x.1 * y.2.1 ≤ y.1 * x.2.1 := by
  intro h
  obtain ⟨⟨a1, _⟩, ⟨a2, _⟩, _⟩ := hx
  obtain ⟨⟨b1, _⟩, ⟨b2, _⟩, _⟩ := hy
  unfold smithF at h
  by_cases hx0 : x.1 = 0
  · rw [hx0, Int.zero_mul]; exact Int.mul_nonneg b1 a2
  · by_cases hy0 : y.1 = 0
    · exfalso
      apply h
      rw [if_pos (.inl hy0)]
      unfold cmp3
      rw [if_pos (by omega)]; omega
    · rw [if_neg (by omega)] at h
      have e1 : x.2.1 * y.1 = y.1 * x.2.1 := Int.mul_comm _ _
      have e2 : y.2.1 * x.1 = x.1 * y.2.1 := Int.mul_comm _ _
      omega
theorem smith_total {x y : Tri} : ¬ smithF y x < 0 ∨ ¬ smithF x y < 0 := by
  unfold smithF
  by_cases h : x.1 = 0 ∨ y.1 = 0
  · rw [if_pos h, if_pos (h.symm)]
    unfold cmp3
    by_cases h1 : min y.1 1 < min x.1 1
    · rw [if_pos h1, if_neg (by omega), if_pos h1]; omega
    · rw [if_neg h1]
      by_cases h2 : min x.1 1 < min y.1 1
      · rw [if_pos h2]; omega
      · rw [if_neg h2]; omega
  · rw [if_neg h, if_neg (fun k => h k.symm)]
    omega
theorem smith_trans {x y z : Tri} (hx : taskOk x) (hy : taskOk y) (hz : taskOk z) (h1 : ¬ smithF y x < 0) (h2 : ¬ smithF z y < 0) : ¬ smithF z x < 0 := by
  have l1 := smith_le hx hy h1
  have l2 := smith_le hy hz h2
  obtain ⟨⟨a1, _⟩, ⟨a2, _⟩, _⟩ := hx
  obtain ⟨⟨b1, _⟩, ⟨b2, _⟩, _⟩ := hy
  obtain ⟨⟨c1, _⟩, ⟨c2, _⟩, _⟩ := hz
  by_cases hx0 : x.1 = 0
  · unfold smithF
    rw [if_pos (.inr hx0)]
    unfold cmp3
    rw [hx0]
    by_cases h : min z.1 1 < min 0 1
    · omega
    · rw [if_neg h]
      split <;> omega
  · have hy0 : y.1 ≠ 0 := fun e => by
      apply h1
      unfold smithF
      rw [if_pos (.inl e)]
      unfold cmp3
      rw [if_pos (by omega)]; omega
    have hz0 : z.1 ≠ 0 := fun e => by
      apply h2
      unfold smithF
      rw [if_pos (.inl e)]
      unfold cmp3
      rw [if_pos (by omega)]; omega
    unfold smithF
    rw [if_neg (by omega)]
    -- x.1 * z.2 <= z.1 * x.2
    have m1 : z.1 * (x.1 * y.2.1) ≤ z.1 * (y.1 * x.2.1) := Int.mul_le_mul_of_nonneg_left l1 c1
    have m2 : x.1 * (y.1 * z.2.1) ≤ x.1 * (z.1 * y.2.1) := Int.mul_le_mul_of_nonneg_left l2 a1
    have e1 : z.1 * (x.1 * y.2.1) = x.1 * (z.1 * y.2.1) := by rw [← Int.mul_assoc, Int.mul_comm z.1 x.1, Int.mul_assoc]
    have e2 : z.1 * (y.1 * x.2.1) = y.1 * (z.1 * x.2.1) := by rw [← Int.mul_assoc, Int.mul_comm z.1 y.1, Int.mul_assoc]
    have e3 : x.1 * (y.1 * z.2.1) = y.1 * (x.1 * z.2.1) := by rw [← Int.mul_assoc, Int.mul_comm x.1 y.1, Int.mul_assoc]
    have m3 : y.1 * (x.1 * z.2.1) ≤ y.1 * (z.1 * x.2.1) := by omega
    have m4 : x.1 * z.2.1 ≤ z.1 * x.2.1 := Int.le_of_mul_le_mul_left m3 (by omega)
    have e4 : x.2.1 * z.1 = z.1 * x.2.1 := Int.mul_comm _ _
    have e5 : z.2.1 * x.1 = x.1 * z.2.1 := Int.mul_comm _ _
    omega
theorem getD_ok {js : List Tri} (t : TasksOk js) (i : Nat) : taskOk (js.getD i (0, 0, 0)) := by
  by_cases hi : i < js.length
  · rw [List.getD_eq_getElem?_getD, List.getElem?_eq_getElem hi]
    exact t.each _ (List.getElem_mem _)
  · rw [List.getD_eq_getElem?_getD, List.getElem?_eq_none (by omega)]
    exact ⟨by decide, by decide, by decide, by decide⟩
theorem pre_smith {js : List Tri} (t : TasksOk js) : Pre js.length (leC (cfL smithF js)) :=
  ⟨fun _ _ _ _ => smith_total, fun _ _ _ _ _ _ h1 h2 => smith_trans (getD_ok t _) (getD_ok t _) (getD_ok t _) h1 h2⟩
end Go.Proofs.Ytimbkogdlmkdgaa
