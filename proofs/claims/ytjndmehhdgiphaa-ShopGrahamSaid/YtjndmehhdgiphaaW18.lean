/- shop: Longest. -/
import Derived.Test.YtjndmehhdgiphaaW17
namespace Go.Proofs.Ytjndmehhdgiphaa
open Go.RowKit PermM StabM FlowM HeapM GrahM McM

def gcmp (l : List Int) (x y : Nat) : Int := l.getD y 0 - l.getD x 0
theorem pre_long (l : List Int) : Pre l.length (leC (gcmp l)) :=
  ⟨fun x y _ _ => by unfold leC gcmp; omega, fun x y z _ _ _ h1 h2 => by unfold leC gcmp at *; omega⟩
theorem long_cmp {A : Option Addr} {cap p2 : Nat} {l : List Int} {W : World} (t : LensOk l 1) (h : IntsAt W A l) (hc : W.cell? ⟨p2, 0, none⟩ = some (.slice A l.length cap)) {x y : Nat} (hx : x < l.length) (hy : y < l.length) :
    Calls Try.prog 28 #[.int .i64 (x : Nat), .int .i64 (y : Nat), .pointer (some ⟨p2, 0, none⟩)] W fun e w' => e = .returned (.int .i64 (gcmp l x y)) ∧ W.Since W.heap.size w' := by
  obtain ⟨b, off, rfl, hb, hcc⟩ := h x hx
  have c1 := hcc x (l.getD x 0) (by rw [List.getD_eq_getElem?_getD, List.getElem?_eq_getElem hx]; rfl)
  have c2 := hcc y (l.getD y 0) (by rw [List.getD_eq_getElem?_getD, List.getElem?_eq_getElem hy]; rfl)
  obtain ⟨a1, a2⟩ := getD_bd (B := 1000000000) (by omega) t.ok x
  obtain ⟨a3, a4⟩ := getD_bd (B := 1000000000) (by omega) t.ok y
  have hxz : (x : Int) < (l.length : Int) := by omega
  have hyz : (y : Int) < (l.length : Int) := by omega
  have hv : Hid (gcmp l x y = l.getD y 0 - l.getD x 0) := Lib.hid rfl
  generalize l.getD x 0 = u at *
  generalize l.getD y 0 = v at *
  clear h hcc
  go_enter Try.func28, Try.ntmps28
  go_wp2
  go_quiet (fail)
  go_wp2
  go_ret
  exact ⟨by rw [hv.out]; rfl, since_drewN (World.Since.refl _ _) _⟩
def LongPost (l : List Int) (w : World) (e : Ending) (w' : World) : Prop :=
  w.Since w.heap.size w' ∧ ∃ g f, e = .returned (.tuple #[.slice (some ⟨g, 0, none⟩) l.length l.length, .nilIface]) ∧ w.heap.size ≤ g ∧ w'.rowIs g 3 l.length (natF f) ∧ SortPost (gcmp l) l.length 0 l.length (fun i => i) f
set_option maxHeartbeats 4000000 in
set_option maxRecDepth 100000 in
theorem Longest_ok {A : Option Addr} {cap : Nat} {l : List Int} {w : World} (h : IntsAt w A l) (t : LensOk l 1) :
    Calls Try.prog 15 #[.slice A l.length cap] w (LongPost l w) := by
  have hfew := t.few
  have hmk := run_make_row' (P := Try.prog) 23 3 (.int .i64 0) 8 Try.underlying23 info_int rfl .i64 .i64 l.length (by omega) (by omega)
  have hC : ∀ W, w.Since w.heap.size W → Calls Try.prog 21 #[.slice A l.length cap, .int .i64 1] W fun e w' => e = .returned .nilIface ∧ W = w' := fun W hs => lengths_ok (h.since (Nat.le_refl _) hs) t
  have HC := Lib.hid hC
  have HJ := Lib.hid h
  have HO := Lib.hid t
  have HP := Lib.hid (pre_long l)
  have eg2 : ∀ args w, (callFunc 28 args).run Try.prog w = .ok (.enter 28 args) w := fun _ _ => by kernel_rfl
  have Eg2 := Lib.hid eg2
  clear hC h t eg2
  go_enter Try.func15, Try.ntmps15
  go_wp2_with fail
  refine (HC.out _ ((World.Since.refl _ _).alloc (Nat.le_refl _) _)).mono ?_
  rintro e w1 ⟨rfl, hw1⟩
  have hs1 : (w.alloc (.cells #[.slice A l.length cap] 23)).Since (w.alloc (.cells #[.slice A l.length cap] 23)).heap.size w1 := by rw [← hw1]; exact World.Since.refl _ _
  clear hw1
  have hsz : w.heap.size + 1 ≤ w1.heap.size := by have := hs1.size; simpa using this
  have hs0 : w.Since w.heap.size w1 := since_join ((World.Since.refl _ _).alloc (Nat.le_refl _) _) hs1
  have c0 : w1.cell? ⟨w.heap.size, 0, none⟩ = some (.slice A l.length cap) := by
    rw [hs1.cell (show w.heap.size < _ by simp)]; simp
  clear hs1
  go_wp2
  clear hmk
  have hr3 := World.rowIs_made w1 (Value.int .i64 0) l.length 3
  have hs3 := hs0.alloc hs0.size (Obj.cells (madeCells #[Value.int .i64 0] l.length) 3)
  have k2 : (w1.alloc (Obj.cells (madeCells #[Value.int .i64 0] l.length) 3)).cell? ⟨w.heap.size, 0, none⟩ = some (.slice A l.length cap) := by
    rw [World.cell?_alloc_lt _ _ _ (by show w.heap.size < _; omega)]; exact c0
  obtain ⟨p2, hp2⟩ : ∃ p, p = w.heap.size := ⟨_, rfl⟩
  obtain ⟨B, hB⟩ : ∃ B, B = w1.heap.size := ⟨_, rfl⟩
  have hB1 : w.heap.size ≤ B := by omega
  have hB2 : p2 ≠ B := by omega
  rw [← hp2] at k2
  rw [← hB] at hr3
  rw [← hp2, ← hB]
  have l2 := World.block_lt_of_cell? _ _ k2
  simp only at l2
  clear hp2 hB c0 hsz hs0
  generalize w1.alloc (Obj.cells (madeCells #[Value.int .i64 0] l.length) 3) = w3 at *
  go_loopg [17] l.length (fun g iv wr => ∃ k : Nat, k ≤ l.length ∧ g = l.length - k ∧ iv = .int .i64 k ∧ OnlyB w3 wr B ∧ wr.rowIs B 3 l.length (fun i => .int .i64 (if i < k then (i : Int) else 0)))
  case atStart => exact ⟨0, Nat.zero_le _, rfl, rfl, OnlyB.refl _ _, hr3.congr (fun i _ => by simp)⟩
  case round =>
    obtain ⟨k, hk, rfl, rfl, ho, hrow⟩ := hrel
    by_cases hkl : k < l.length
    · have hkz : (k : Int) < (l.length : Int) := by omega
      have g1 := hrow.cell hkl
      have g2 := hrow.frozen k
      rw [if_neg (by omega)] at g1
      have Hrow := Lib.hid hrow
      clear hrow
      go_wp2
      go_roundg (l.length - (k + 1))
      case measure => go_light; omega
      case rel =>
        go_light
        refine ⟨k + 1, by omega, rfl, by go_num, ho.setCell k _, (Hrow.out.set k _).congr (fun i _ => ?_)⟩
        by_cases e : i = k
        · subst e; rw [if_pos rfl, if_pos (by omega)]
        · rw [if_neg e]
          by_cases h : i < k
          · rw [if_pos h, if_pos (by omega)]
          · rw [if_neg h, if_neg (by omega)]
    · obtain rfl : l.length = k := by omega
      have hrow2 : wr.rowIs B 3 l.length (natF (fun i => i)) := hrow.congr (fun i hi => by unfold natF; rw [if_pos hi])
      have hcmp : CmpOk 28 #[.pointer (some ⟨p2, 0, none⟩)] (gcmp l) l.length B wr := fun W hW x y hx hy => by
        have ho2 := ho.trans hW
        show Calls Try.prog 28 #[.int .i64 (x : Nat), .int .i64 (y : Nat), .pointer (some ⟨p2, 0, none⟩)] W _
        exact long_cmp HO.out (HJ.out.since (Nat.le_refl _) (ho2.since hs3 hB1)) (by rw [ho2.cell (a := ⟨p2, 0, none⟩) l2 hB2]; exact k2) hx hy
      have C := Lib.hid (SortStableFunc_any B l.length l.length l.length l.length (fun i => i) 28 #[.pointer (some ⟨p2, 0, none⟩)] (gcmp l) wr Eg2.out hcmp HP.out (fun i hi => hi) hfew (Nat.le_refl _) hrow2)
      clear hcmp hrow hrow2
      go_wp2_with fail
      refine C.out.mono ?_
      rintro e w5 ⟨rfl, ho5, f, hrow5, hf⟩
      have hsF : w.Since w.heap.size w5 := (ho.trans ho5).since hs3 hB1
      go_wp2
      go_ret2
      exact ⟨hsF, B, f, rfl, hB1, hrow5, hf⟩
end Go.Proofs.Ytjndmehhdgiphaa
