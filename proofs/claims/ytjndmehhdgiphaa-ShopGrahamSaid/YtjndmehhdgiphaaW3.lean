/- shop: Johnson. -/
import Derived.Test.YtjndmehhdgiphaaW2
namespace Go.Proofs.Ytjndmehhdgiphaa
open Go.RowKit PermM StabM FlowM

def BadPost (w : World) (e : Ending) (w' : World) : Prop := w.Since w.heap.size w' ∧ ∃ k : Int, e = .returned (.tuple #[.slice none 0 0, .iface 50 (.int .i64 k)])
def JohnPost (js : List Duo) (w : World) (e : Ending) (w' : World) : Prop :=
  w.Since w.heap.size w' ∧ ∃ g f, e = .returned (.tuple #[.slice (some ⟨g, 0, none⟩) js.length js.length, .nilIface]) ∧ w.heap.size ≤ g ∧ w'.rowIs g 3 js.length (natF f) ∧ SortPost (jcmp (fa js) (fb js)) js.length 0 js.length (fun i => i) f
theorem pre_john (js : List Duo) : Pre js.length (leC (jcmp (fa js) (fb js))) :=
  ⟨fun x y _ _ => jcmp_total x y, fun _ _ _ _ _ _ h1 h2 => jcmp_trans h1 h2⟩
set_option maxHeartbeats 4000000 in
set_option maxRecDepth 100000 in
theorem Johnson_bad {A : Option Addr} {cap : Nat} {js : List Duo} {w : World} (h : DuoAt w A js) (hlen : js.length ≤ 9223372036854775807) (t : ¬ DuosOk js) :
    Calls Try.prog 7 #[.slice A js.length cap] w (BadPost w) := by
  have hC : ∀ W, w.Since w.heap.size W → Calls Try.prog 16 #[.slice A js.length cap] W fun e w' => W.Since W.heap.size w' ∧ ∃ k : Int, e = .returned (.iface 50 (.int .i64 k)) := fun W hs => twos_bad (h.same hs) hlen t
  have HC := Lib.hid hC
  clear hC h
  go_enter Try.func7, Try.ntmps7
  go_wp2_with fail
  refine (HC.out _ ((World.Since.refl _ _).alloc (Nat.le_refl _) _)).mono ?_
  rintro e w1 ⟨hs1, k, rfl⟩
  go_wp2
  go_ret2
  exact ⟨since_join ((World.Since.refl _ _).alloc (Nat.le_refl _) _) hs1, k, rfl⟩
set_option maxHeartbeats 4000000 in
set_option maxRecDepth 100000 in
theorem Johnson_ok {A : Option Addr} {cap : Nat} {js : List Duo} {w : World} (h : DuoAt w A js) (t : DuosOk js) :
    Calls Try.prog 7 #[.slice A js.length cap] w (JohnPost js w) := by
  have hfew := t.few
  have hmk := run_make_row' (P := Try.prog) 23 3 (.int .i64 0) 8 Try.underlying23 info_int rfl .i64 .i64 js.length (by omega) (by omega)
  have hC : ∀ W, w.Since w.heap.size W → Calls Try.prog 16 #[.slice A js.length cap] W fun e w' => W.Since W.heap.size w' ∧ e = .returned .nilIface := fun W hs => twos_ok (h.same hs) t
  have HC := Lib.hid hC
  have HJ := Lib.hid h
  have HO := Lib.hid t
  have HP := Lib.hid (pre_john js)
  have eg2 : ∀ args w, (callFunc 18 args).run Try.prog w = .ok (.enter 18 args) w := fun _ _ => by kernel_rfl
  have Eg2 := Lib.hid eg2
  clear hC h t eg2
  go_enter Try.func7, Try.ntmps7
  go_wp2_with fail
  refine (HC.out _ ((World.Since.refl _ _).alloc (Nat.le_refl _) _)).mono ?_
  rintro e w1 ⟨hs1, rfl⟩
  have hsz : w.heap.size + 1 ≤ w1.heap.size := by have := hs1.size; simpa using this
  have hs0 : w.Since w.heap.size w1 := since_join ((World.Since.refl _ _).alloc (Nat.le_refl _) _) hs1
  have c0 : w1.cell? ⟨w.heap.size, 0, none⟩ = some (.slice A js.length cap) := by
    rw [hs1.cell (show w.heap.size < _ by simp)]; simp
  clear hs1
  go_wp2
  clear hmk
  have hr3 := World.rowIs_made w1 (Value.int .i64 0) js.length 3
  have hs3 := hs0.alloc hs0.size (Obj.cells (madeCells #[Value.int .i64 0] js.length) 3)
  have k2 : (w1.alloc (Obj.cells (madeCells #[Value.int .i64 0] js.length) 3)).cell? ⟨w.heap.size, 0, none⟩ = some (.slice A js.length cap) := by
    rw [World.cell?_alloc_lt _ _ _ (by show w.heap.size < _; omega)]; exact c0
  obtain ⟨p2, hp2⟩ : ∃ p, p = w.heap.size := ⟨_, rfl⟩
  obtain ⟨B, hB⟩ : ∃ B, B = w1.heap.size := ⟨_, rfl⟩
  have hB1 : w.heap.size ≤ B := by omega
  have hB2 : p2 ≠ B := by omega
  rw [← hp2] at k2
  rw [← hB] at hr3
  rw [← hp2, ← hB]
  have l2 := World.block_lt_of_cell? _ _ k2
  simp only at l2
  clear hp2 hB c0 hsz hs0
  generalize w1.alloc (Obj.cells (madeCells #[Value.int .i64 0] js.length) 3) = w3 at *
  go_loopg [17] js.length (fun g iv wr => ∃ k : Nat, k ≤ js.length ∧ g = js.length - k ∧ iv = .int .i64 k ∧ OnlyB w3 wr B ∧ wr.rowIs B 3 js.length (fun i => .int .i64 (if i < k then (i : Int) else 0)))
  case atStart => exact ⟨0, Nat.zero_le _, rfl, rfl, OnlyB.refl _ _, hr3.congr (fun i _ => by simp)⟩
  case round =>
    obtain ⟨k, hk, rfl, rfl, ho, hrow⟩ := hrel
    by_cases hkl : k < js.length
    · have hkz : (k : Int) < (js.length : Int) := by omega
      have g1 := hrow.cell hkl
      have g2 := hrow.frozen k
      rw [if_neg (by omega)] at g1
      have Hrow := Lib.hid hrow
      clear hrow
      go_wp2
      go_roundg (js.length - (k + 1))
      case measure => go_light; omega
      case rel =>
        go_light
        refine ⟨k + 1, by omega, rfl, by go_num, ho.setCell k _, (Hrow.out.set k _).congr (fun i _ => ?_)⟩
        by_cases e : i = k
        · subst e; rw [if_pos rfl, if_pos (by omega)]
        · rw [if_neg e]
          by_cases h : i < k
          · rw [if_pos h, if_pos (by omega)]
          · rw [if_neg h, if_neg (by omega)]
    · obtain rfl : js.length = k := by omega
      have hrow2 : wr.rowIs B 3 js.length (natF (fun i => i)) := hrow.congr (fun i hi => by unfold natF; rw [if_pos hi])
      have hcmp : CmpOk 18 #[.pointer (some ⟨p2, 0, none⟩)] (jcmp (fa js) (fb js)) js.length B wr := fun W hW x y hx hy => by
        have ho2 := ho.trans hW
        show Calls Try.prog 18 #[.int .i64 (x : Nat), .int .i64 (y : Nat), .pointer (some ⟨p2, 0, none⟩)] W _
        exact jc_any HO.out (HJ.out.same (ho2.since hs3 hB1)) (by rw [ho2.cell (a := ⟨p2, 0, none⟩) l2 hB2]; exact k2) hx hy
      have C := Lib.hid (SortStableFunc_any B js.length js.length js.length js.length (fun i => i) 18 #[.pointer (some ⟨p2, 0, none⟩)] (jcmp (fa js) (fb js)) wr Eg2.out hcmp HP.out (fun i hi => hi) hfew (Nat.le_refl _) hrow2)
      clear hcmp hrow hrow2
      go_wp2_with fail
      refine C.out.mono ?_
      rintro e w5 ⟨rfl, ho5, f, hrow5, hf⟩
      have hsF : w.Since w.heap.size w5 := (ho.trans ho5).since hs3 hB1
      go_wp2
      go_ret2
      exact ⟨hsF, B, f, rfl, hB1, hrow5, hf⟩
end Go.Proofs.Ytjndmehhdgiphaa
