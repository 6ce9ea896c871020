/- path: cmp.Or over two; Run's own comparison; slices.MinFunc by it. -/
import Derived.Test.YtekjddcckkelnaaW2
namespace Go.Proofs.Ytekjddcckkelnaa
open Go.RowKit PathM

/-- cmp.Or over two -/
def orV (a b : Int) : Int := if a ≠ 0 then a else b
set_option maxHeartbeats 1000000 in
theorem Or_any (g : Nat) (a b : Int) (w : World) (f : Nat → Value) (h : w.rowIs g 3 2 f) (h0 : f 0 = .int .i64 a) (h1 : f 1 = .int .i64 b) :
    Calls Try.prog 17 #[.slice (some ⟨g, 0, none⟩) 2 2] w fun e w' => e = .returned (.int .i64 (orV a b)) ∧ w = w' := by
  have c0 := h.cell (i := 0) (by omega)
  have c1 := h.cell (i := 1) (by omega)
  rw [h0] at c0
  rw [h1] at c1
  obtain ⟨r, hr⟩ : ∃ r, r = orV a b := ⟨_, rfl⟩
  rw [← hr]
  have Hr := Lib.hid hr
  clear h h0 h1 hr
  go_enter Try.func17, Try.ntmps17
  go_wp2
  go_loopg [8] 2 (fun g i wr => ∃ k : Nat, k ≤ 2 ∧ g = 2 - k ∧ i = .int .i64 k ∧ w = wr ∧ Hid ((1 ≤ k → a = 0) ∧ (2 ≤ k → b = 0)))
  case atStart => exact ⟨0, by omega, rfl, rfl, rfl, Lib.hid ⟨fun h => by omega, fun h => by omega⟩⟩
  case round =>
    obtain ⟨k, hk, rfl, rfl, rfl, hH⟩ := hrel
    match k, hk with
    | 0, _ =>
      by_cases ha : a = 0
      · have hab : (a != 0) = false := by simp [ha]
        have Ha := Lib.hid ha
        clear ha
        go_wp2
        go_roundg (2 - 1)
        case measure => go_light; omega
        case rel =>
          go_light
          exact ⟨1, by omega, rfl, by go_num, rfl, Lib.hid ⟨fun _ => Ha.out, fun h => by omega⟩⟩
      · have hab : (a != 0) = true := by simp [ha]
        go_wp2
        go_ret
        exact ⟨by rw [Hr.out]; unfold orV; rw [if_pos ha]; rfl, rfl⟩
    | 1, _ =>
      have ha := hH.out.1 (by omega)
      have Ha := Lib.hid ha
      clear ha
      by_cases hb : b = 0
      · have hab : (b != 0) = false := by simp [hb]
        have Hb := Lib.hid hb
        clear hb
        go_wp2
        go_roundg (2 - 2)
        case measure => go_light; omega
        case rel =>
          go_light
          exact ⟨2, by omega, rfl, by go_num, rfl, Lib.hid ⟨fun _ => Ha.out, fun _ => Hb.out⟩⟩
      · have hab : (b != 0) = true := by simp [hb]
        go_wp2
        go_ret
        exact ⟨by rw [Hr.out]; unfold orV; rw [if_neg (by simp [Ha.out])]; rfl, rfl⟩
    | 2, _ =>
      have ha := hH.out.1 (by omega)
      have hb := hH.out.2 (by omega)
      have hz : r = 0 := by rw [Hr.out]; unfold orV; rw [if_neg (by simp [ha]), hb]
      subst hz
      clear ha hb
      go_wp2
      go_ret
      exact ⟨rfl, rfl⟩
end Go.Proofs.Ytekjddcckkelnaa
