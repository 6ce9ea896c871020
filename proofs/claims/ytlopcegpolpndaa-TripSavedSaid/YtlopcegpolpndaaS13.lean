/- trip: Savings refuses. -/
import Derived.Test.YtlopcegpolpndaaS11
import Derived.Deep.DeepCutAuto
import Derived.Deep.CutBlock
namespace Go.Proofs.Ytlopcegpolpndaa
open Go.RowKit Go.Maps TripM SavedM

/-- what Savings asks -/
structure SvOk (m : List (List Int)) (ws : List Int) (room : Int) : Prop where
  map : MapOk m
  len : ws.length = m.length
  ok : ∀ i, i < ws.length → 0 ≤ wF ws i ∧ wF ws i ≤ 1000000000
  room : ∀ i, 1 ≤ i → i < ws.length → wF ws i ≤ room
theorem wF_out {ws : List Int} {i : Nat} (h : ws.length ≤ i) : wF ws i = 0 := by
  unfold wF
  rw [List.getD_eq_getElem?_getD, List.getElem?_eq_none h]; rfl
set_option maxHeartbeats 4000000 in
set_option maxRecDepth 100000 in
theorem Savings_bad {A Wt : Option Addr} {cap capw : Nat} {m : List (List Int)} {ws : List Int} {room : Int} {w : World} (h : MapAt w A m) (hW : IntsAt w Wt ws) (hlen : m.length ≤ 9223372036854775807) (hrl : ∀ r ∈ m, r.length ≤ 9223372036854775807) (hlw : ws.length ≤ 9223372036854775807)
    (hwb : ∀ i, -9223372036854775808 ≤ wF ws i ∧ wF ws i ≤ 9223372036854775807) (t : ¬ SvOk m ws room) :
    Calls Try.prog 14 #[.slice A m.length cap, .slice Wt ws.length capw, .int .i64 room] w (IsErr2 (.slice none 0 0) w) := by
  obtain ⟨p, hpz⟩ : ∃ p, p = w.heap.size := ⟨_, rfl⟩
  have hs1 : w.Since w.heap.size (w.alloc (.cells #[.slice Wt ws.length capw] 23)) := (World.Since.refl _ _).alloc (Nat.le_refl _) _
  have hc1 : (w.alloc (.cells #[.slice Wt ws.length capw] 23)).cell? ⟨p, 0, none⟩ = some (.slice Wt ws.length capw) := by rw [World.cell?_alloc_at _ _ _ _ hpz]; rfl
  have HM := Lib.hid h
  have HWs := Lib.hid hW
  have HS1 := Lib.hid hs1
  have HT := Lib.hid t
  have HRL := Lib.hid hrl
  have HWB := Lib.hid hwb
  clear h hW hs1 t hrl hwb
  go_enter Try.func14, Try.ntmps14
  go_upto_block 1 with fail
  rw [← hpz]
  clear hpz
  generalize w.alloc (.cells #[.slice Wt ws.length capw] 23) = w1 at *
  have HM1 := Lib.hid (HM.out.since HS1.out)
  have HW1 := Lib.hid (HWs.out.since (Nat.le_refl _) HS1.out)
  by_cases hk : MapOk m
  case neg =>
    go_wp2_with fail
    refine (Check_bad HM1.out hlen HRL.out hk).mono ?_
    rintro e w2 ⟨hs2, c, rfl⟩
    have HS2 := Lib.hid hs2
    clear hs2
    go_wp2
    go_ret2
    exact ⟨HS1.out.trans (since_down HS2.out HS1.out.size), c, rfl⟩
  have HK := Lib.hid hk
  have hfew := hk.few
  clear hk
  by_cases hl : ws.length = m.length
  case neg =>
    have hlz : ((ws.length : Int) != (m.length : Int)) = true := by rw [bne_iff_ne]; omega
    clear hl
    go_wp2_with fail
    refine (Check_ok HM1.out HK.out).mono ?_
    rintro e w2 ⟨rfl, rfl⟩
    go_wp2
    go_ret2
    exact ⟨HS1.out, 3, rfl⟩
  have hlz : ((ws.length : Int) != (m.length : Int)) = false := by rw [bne_eq_false_iff_eq]; omega
  have hlb : ws.length ≤ 9 := by omega
  have HL := Lib.hid hl
  clear hl
  go_wp2_with fail
  refine (Check_ok HM1.out HK.out).mono ?_
  rintro e w2 ⟨rfl, rfl⟩
  go_wp2
  go_loopg [38] ws.length (fun gh iv wr => ∃ k : Nat, k ≤ ws.length ∧ gh = ws.length - k ∧ iv = .int .i64 (k : Int) ∧ w1 = wr ∧ Hid (∀ i, i < k → (0 ≤ wF ws i ∧ wF ws i ≤ 1000000000) ∧ (1 ≤ i → wF ws i ≤ room)))
  case atStart => exact ⟨0, Nat.zero_le _, rfl, rfl, rfl, Lib.hid (fun i hi => by omega)⟩
  case round =>
    obtain ⟨k, hk, rfl, rfl, rfl, hH⟩ := hrel
    by_cases hkl : k < ws.length
    · have hkz : (k : Int) < (ws.length : Int) := by omega
      obtain ⟨b, off, rfl, hb, hc⟩ := HW1.out k hkl
      have d0 := hc k (wF ws k) (by unfold wF; rw [List.getD_eq_getElem?_getD, List.getElem?_eq_getElem hkl]; rfl)
      obtain ⟨q, hq⟩ : ∃ q, q = wF ws k := ⟨_, rfl⟩
      rw [← hq] at d0
      have HQ := Lib.hid hq
      clear hc hq
      by_cases c1 : q < 0
      · go_wp2
        go_ret2
        exact ⟨HS1.out, 2, rfl⟩
      by_cases c2 : 1000000000 < q
      · have c1' : 0 ≤ q := by omega
        clear c1
        go_wp2
        go_ret2
        exact ⟨HS1.out, 2, rfl⟩
      have c1' : 0 ≤ q := by omega
      have c2' : q ≤ 1000000000 := by omega
      clear c1 c2
      by_cases hk0 : 0 < k
      · have hk0z : (0 : Int) < (k : Int) := by omega
        by_cases c3 : room < q
        · go_wp2
          go_ret2
          exact ⟨HS1.out, 9, rfl⟩
        · have c3' : q ≤ room := by omega
          clear c3
          go_wp2
          go_roundg (ws.length - (k + 1))
          case measure => go_light; omega
          case rel =>
            go_light
            refine ⟨k + 1, by omega, rfl, by go_num, rfl, Lib.hid (fun i hi => ?_)⟩
            by_cases e : i = k
            · subst e; rw [← HQ.out]; exact ⟨⟨c1', c2'⟩, fun _ => c3'⟩
            · exact hH.out i (by omega)
      · obtain rfl : k = 0 := by omega
        rw [Nat.add_zero] at d0
        go_wp2
        go_roundg (ws.length - (0 + 1))
        case measure => go_light; omega
        case rel =>
          go_light
          refine ⟨1, by omega, rfl, by go_num, rfl, Lib.hid (fun i hi => ?_)⟩
          obtain rfl : i = 0 := by omega
          rw [← HQ.out]; exact ⟨⟨c1', c2'⟩, fun h => by omega⟩
    · obtain rfl : ws.length = k := by omega
      exact absurd ⟨HK.out, HL.out, fun i hi => (hH.out i hi).1, fun i h1 hi => (hH.out i hi).2 h1⟩ HT.out
end Go.Proofs.Ytlopcegpolpndaa
