/- trip: the order of savings (Savings$1). -/
import Derived.Test.YtlopcegpolpndaaLib
import Derived.Deep.LoopGhost
import Derived.Deep.QuietTactic
import Derived.BigQuiet
import Derived.RegionTactic
import Derived.StillTailTactics
import Derived.Sort.Grow
namespace Go.Proofs.Ytlopcegpolpndaa
open Go.RowKit

theorem isNaN_any (x : Int) (w : World) : Calls Try.prog 31 #[.int .i64 x] w fun e w' => e = .returned (.bool false) ∧ w = w' := by
  have hb : (x != x) = false := by simp
  go_enter Try.func31, Try.ntmps31
  go_wp2
  go_ret
  exact ⟨rfl, rfl⟩
/-- cmp.Compare -/
def cmpV (a b : Int) : Int := if a < b then -1 else if b < a then 1 else 0
theorem Compare_any (a b : Int) (w : World) : Calls Try.prog 24 #[.int .i64 a, .int .i64 b] w fun e w' => e = .returned (.int .i64 (cmpV a b)) ∧ w = w' := by
  obtain ⟨r, hr⟩ : ∃ r, r = cmpV a b := ⟨_, rfl⟩
  rw [← hr]
  by_cases h1 : a < b
  · obtain rfl : r = -1 := by rw [hr]; unfold cmpV; rw [if_pos h1]
    clear hr
    go_enter Try.func24, Try.ntmps24
    go_wp2_with fail
    refine (isNaN_any _ _).mono ?_
    rintro e w' ⟨rfl, rfl⟩
    go_wp2_with fail
    refine (isNaN_any _ _).mono ?_
    rintro e w' ⟨rfl, rfl⟩
    go_wp2
    go_ret
    exact ⟨rfl, rfl⟩
  have h1' : b ≤ a := by omega
  by_cases h2 : b < a
  · obtain rfl : r = 1 := by rw [hr]; unfold cmpV; rw [if_neg h1, if_pos h2]
    clear hr h1
    go_enter Try.func24, Try.ntmps24
    go_wp2_with fail
    refine (isNaN_any _ _).mono ?_
    rintro e w' ⟨rfl, rfl⟩
    go_wp2_with fail
    refine (isNaN_any _ _).mono ?_
    rintro e w' ⟨rfl, rfl⟩
    go_wp2
    go_ret
    exact ⟨rfl, rfl⟩
  have h2' : a ≤ b := by omega
  obtain rfl : r = 0 := by rw [hr]; unfold cmpV; rw [if_neg h1, if_neg h2]
  clear hr h1 h2
  go_enter Try.func24, Try.ntmps24
  go_wp2_with fail
  refine (isNaN_any _ _).mono ?_
  rintro e w' ⟨rfl, rfl⟩
  go_wp2_with fail
  refine (isNaN_any _ _).mono ?_
  rintro e w' ⟨rfl, rfl⟩
  go_wp2
  go_ret
  exact ⟨rfl, rfl⟩
/-- cmp.Or over three -/
def or3 (a b c : Int) : Int := if a ≠ 0 then a else if b ≠ 0 then b else c
set_option maxHeartbeats 2000000 in
theorem Or3_any (g : Nat) (a b c : Int) (w : World) (f : Nat → Value) (h : w.rowIs g 3 3 f) (h0 : f 0 = .int .i64 a) (h1 : f 1 = .int .i64 b) (h2 : f 2 = .int .i64 c) :
    Calls Try.prog 23 #[.slice (some ⟨g, 0, none⟩) 3 3] w fun e w' => e = .returned (.int .i64 (or3 a b c)) ∧ w = w' := by
  have HV : Hid (∀ k : Nat, k < 3 → w.cell? ⟨g, k, none⟩ = some (.int .i64 (if k = 0 then a else if k = 1 then b else c))) := Lib.hid (fun k hk => by
    have := h.cell (i := k) hk
    rw [this]
    match k, hk with
    | 0, _ => rw [h0]; rfl
    | 1, _ => rw [h1]; rfl
    | 2, _ => rw [h2]; rfl)
  obtain ⟨r, hr⟩ : ∃ r, r = or3 a b c := ⟨_, rfl⟩
  rw [← hr]
  have Hr := Lib.hid hr
  clear h h0 h1 h2 hr
  go_enter Try.func23, Try.ntmps23
  go_wp2
  go_loopg [8] 3 (fun gh i wr => ∃ k : Nat, k ≤ 3 ∧ gh = 3 - k ∧ i = .int .i64 k ∧ w = wr ∧ Hid (∀ j, j < k → (if j = 0 then a else if j = 1 then b else c) = 0))
  case atStart => exact ⟨0, by omega, rfl, rfl, rfl, Lib.hid (fun j hj => by omega)⟩
  case round =>
    obtain ⟨k, hk, rfl, rfl, rfl, hH⟩ := hrel
    by_cases hk3 : k < 3
    · have hkz : (k : Int) < 3 := by omega
      have hc := HV.out k hk3
      obtain ⟨v, hv⟩ : ∃ v, v = (if k = 0 then a else if k = 1 then b else c) := ⟨_, rfl⟩
      rw [← hv] at hc
      have Hv := Lib.hid hv
      clear hv
      by_cases hz : v = 0
      · have hb : (v != 0) = false := by simp [hz]
        have Hz := Lib.hid hz
        clear hz
        go_wp2
        go_roundg (3 - (k + 1))
        case measure => go_light; omega
        case rel =>
          go_light
          refine ⟨k + 1, by omega, rfl, by go_num, rfl, Lib.hid (fun j hj => ?_)⟩
          by_cases e : j = k
          · subst e; rw [← Hv.out]; exact Hz.out
          · exact hH.out j (by omega)
      · have hb : (v != 0) = true := by simp [hz]
        have Hz := Lib.hid hz
        clear hz
        go_wp2
        go_ret
        refine ⟨?_, rfl⟩
        rw [Hr.out]
        have h3 := hH.out
        have hv := Hv.out
        have hz := Hz.out
        unfold or3
        match k, hk3 with
        | 0, _ => simp at hv; subst hv; rw [if_pos hz]; rfl
        | 1, _ =>
          have := h3 0 (by omega)
          simp at this hv
          subst hv
          rw [if_neg (by simp [this]), if_pos hz]; rfl
        | 2, _ =>
          have e0 := h3 0 (by omega)
          have e1 := h3 1 (by omega)
          simp at e0 e1 hv
          subst hv
          rw [if_neg (by simp [e0]), if_neg (by simp [e1])]; rfl
    · obtain rfl : k = 3 := by omega
      have e0 := hH.out 0 (by omega)
      have e1 := hH.out 1 (by omega)
      have e2 := hH.out 2 (by omega)
      simp at e0 e1 e2
      have hz : r = 0 := by rw [Hr.out]; unfold or3; rw [if_neg (by simp [e0]), if_neg (by simp [e1]), e2]
      subst hz
      clear e0 e1 e2
      go_wp2
      go_ret
      exact ⟨rfl, rfl⟩
end Go.Proofs.Ytlopcegpolpndaa
