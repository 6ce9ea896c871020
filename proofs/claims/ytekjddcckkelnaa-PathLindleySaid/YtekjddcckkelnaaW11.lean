/- path: the walk of PathLindley. -/
import Derived.Test.YtekjddcckkelnaaW10
namespace Go.Proofs.Ytekjddcckkelnaa
open Go.RowKit PathM

theorem first_best {js : List Job} : ∀ left l m, BestOf 1 js left l m → m ∈ l ∧ ∀ j ∈ l, m ≤ j := fun left l m hb => by
  refine ⟨hb.mem, fun j hj => ?_⟩
  have hr : ∀ i, rk 1 js left i = (i : Int) := fun i => by unfold rk; simp
  have := hb.least j hj
  rw [hr, hr] at this
  omega
theorem range_get' {α : Type} {n k : Nat} (h : k < n) {f : Nat → α} : ((List.range n).map f)[k]? = some (f k) := by
  rw [List.getElem?_map, List.getElem?_range h]; rfl
def pieceJ (js : List Job) (i : Nat) : Nat × Int × Int := pieceOf (atJ js) (szJ js) i
def RunPost1 (js : List Job) (w : World) (e : Ending) (w' : World) : Prop :=
  w.Since w.heap.size w' ∧ ∃ (A : Option Addr) (cap : Nat), e = .returned (.tuple #[.slice A js.length cap, .nilIface]) ∧ PiecesAt w' A ((List.range js.length).map (pieceJ js))
theorem Run_first (A : Option Addr) (cap : Nat) (js : List Job) (w : World) (h : JobsAt w A js) (hok : JobsOk js) :
    Calls Try.prog 8 #[.slice A js.length cap, .int .i64 1] w (RunPost1 js w) :=
  (Run_ok A cap js 1 w h hok (by omega) (by omega)).mono fun _ _ ⟨hs, s, _, hR, he, hv, hown⟩ => by
    have hout : s.out = (List.range js.length).map (pieceJ js) := hR.fifo_end (Jobs_of hok) first_best he
    obtain ⟨A2, cap2, hv2, _, _⟩ := own_form hown
    have hp := own_pieces hown hv2
    have hl : s.out.length = js.length := by rw [hout]; simp
    rw [hl] at hv2
    rw [hout] at hp
    exact ⟨hs, A2, cap2, by rw [hv, hv2], hp⟩
set_option maxHeartbeats 4000000 in
set_option maxRecDepth 100000 in
theorem lindley_any {A : Option Addr} {cap : Nat} {js : List Job} {w : World} (h : JobsAt w A js) (hlen : js.length ≤ 9223372036854775807) :
    Calls Try.prog 6 #[.slice A js.length cap] w (TruePost w) := by
  by_cases p1 : 40 < js.length
  · go_enter Try.func6, Try.ntmps6
    go_wp2
    go_ret
    exact ⟨rfl, World.Since.refl _ _⟩
  have p2 : js.length ≤ 40 := by omega
  have pd : decide ((40 : Int) < (js.length : Int)) = false := decide_eq_false (by omega)
  have pd2 : decide (40 < js.length) = false := decide_eq_false (by omega)
  have HJ := Lib.hid h
  clear p1 h
  by_cases hok : JobsOk js
  · have HO := Lib.hid hok
    clear hok
    go_enter Try.func6, Try.ntmps6
    go_wp2_with fail
    refine (Waits_ok A cap js w HJ.out HO.out).mono ?_
    rintro e w1 ⟨hs1, v1, rfl, own1⟩
    obtain ⟨A1, cap1, rfl, _, _⟩ := own_form own1
    have Ho1 := Lib.hid own1
    clear own1
    go_wp2_with fail
    refine (Run_first A cap js w1 (jobs_same HJ.out hs1) HO.out).mono ?_
    rintro e w2 ⟨hs2, A2, cap2, rfl, P2⟩
    have HP2 := Lib.hid P2
    clear P2
    have hs12 := since_join hs1 hs2
    go_wp2_with fail
    refine (Many_ok A cap js w2 (jobs_same HJ.out hs12) HO.out).mono ?_
    rintro e w3 ⟨hs3, v3, rfl, own3⟩
    obtain ⟨A3, cap3, rfl, _, _⟩ := own_form own3
    have Ho3 := Lib.hid own3
    clear own3
    have hs13 := since_join hs12 hs3
    go_wp2_with fail
    refine (served_any _).mono ?_
    rintro e w4 ⟨rfl, hs4⟩
    have hs14 := since_join hs13 hs4
    have own1 := own_since' (own_since' (own_since' Ho1.out hs2) hs3) hs4
    have own3 := own_since' Ho3.out hs4
    have P4 := (HP2.out.since (Nat.le_refl _) hs3).since (Nat.le_refl _) hs4
    have HW := Lib.hid own1
    have HM := Lib.hid own3
    have HP := Lib.hid P4
    clear own1 own3 P4 hs1 hs2 hs3 hs4 hs12 hs13 Ho1 Ho3 HP2
    go_wp2
    go_loopg [9] js.length (fun g i wr => ∃ (k m : Nat), k ≤ js.length ∧ g = js.length - k ∧ i = .int .i64 k ∧ wr = w4.drewN m)
    case atStart => exact ⟨0, 0, Nat.zero_le _, rfl, rfl, rfl⟩
    case round =>
      obtain ⟨k, m, hk, rfl, rfl, rfl⟩ := hrel
      by_cases hkl : k < js.length
      · have hkz : (k : Int) < (js.length : Int) := by omega
        obtain ⟨b, off, rfl, hb, hc⟩ := HJ.out k hkl
        obtain ⟨x, hx⟩ : ∃ x, js[k]? = some x := ⟨js[k], List.getElem?_eq_getElem hkl⟩
        obtain ⟨c0, c1, _⟩ := hc k x hx
        rw [← hs14.cell (show b < w.heap.size from hb)] at c0 c1
        have hxj := jobAt hx
        have hxo := HO.out.each x (List.mem_of_getElem? hx)
        have hwb := wt_bd HO.out hkl
        have hp0 : 0 < js.length := by omega
        obtain ⟨g1, _, hv1, _, _, _, _, hc1, _⟩ := own_at HW.out hp0
        obtain ⟨g3, _, hv3, _, _, _, _, hc3, _⟩ := own_at HM.out hp0
        injection hv1 with e1 x1 x2
        injection hv3 with e3 x3 x4
        subst e1 e3
        clear x1 x2 x3 x4
        have q1 := hc1 k _ (range_get hkl (wtV js))
        have q3 := hc3 k _ (range_get hkl (stV js))
        obtain ⟨b2, off2, rfl, hb2, hc2⟩ := HP.out k (by simp; exact hkl)
        obtain ⟨d0, d1, d2⟩ := hc2 k (pz (pieceJ js k)) (by rw [List.getElem?_map, range_get' hkl]; rfl)
        have hS : S (atJ js) (szJ js) k = x.1 + wt js k := by unfold wt; rw [hxj.1]; omega
        have hF : F (atJ js) (szJ js) (k + 1) = x.1 + wt js k + x.2.1 := by rw [F_succ, hS, hxj.2]
        simp only [pz, pieceJ, pieceOf] at d0 d1 d2
        unfold wtV at q1
        unfold stV at q3
        rw [hS] at d1 q3
        rw [hF] at d2
        obtain ⟨wk, hwk⟩ : ∃ z, z = wt js k := ⟨_, rfl⟩
        rw [← hwk] at hwb q1 q3 d1 d2
        obtain ⟨x1, x2, x3⟩ := x
        obtain ⟨a1, a2, _⟩ := hxo
        simp only at c0 c1 d1 d2 q3 a1 a2
        have f1 : 0 ≤ x1 + wk := by omega
        have f2 : x1 + wk ≤ 62000000000 := by omega
        have f3 : x1 + wk + x2 ≤ 63000000000 := by omega
        clear hc hx hxj hS hF hwk hc1 hc2 hc3
        go_wp2
        go_quiet (fail)
        go_wp2
        go_roundg (js.length - (k + 1))
        case measure => go_light; omega
        case rel =>
          go_light
          exact ⟨k + 1, _, by omega, rfl, by go_num, rfl⟩
      · obtain rfl : js.length = k := by omega
        go_wp2
        go_ret
        exact ⟨rfl, since_drewN hs14 m⟩
  · have HO := Lib.hid hok
    clear hok
    go_enter Try.func6, Try.ntmps6
    go_wp2_with fail
    refine (Waits_bad A cap js w HJ.out hlen HO.out).mono ?_
    rintro e w1 ⟨hs1, k1, rfl⟩
    go_wp2_with fail
    refine (Run_bad A cap js 1 w1 (jobs_same HJ.out hs1) hlen HO.out).mono ?_
    rintro e w2 ⟨hs2, k2, rfl⟩
    have hs12 := since_join hs1 hs2
    go_wp2_with fail
    refine (Many_bad A cap js w2 (jobs_same HJ.out hs12) hlen HO.out).mono ?_
    rintro e w3 ⟨hs3, k3, rfl⟩
    have hs13 := since_join hs12 hs3
    go_wp2_with fail
    refine (served_any _).mono ?_
    rintro e w4 ⟨rfl, hs4⟩
    have hs14 := since_join hs13 hs4
    go_wp2_with fail
    refine (served_any _).mono ?_
    rintro e w5 ⟨rfl, hs5⟩
    have hs15 := since_join hs14 hs5
    go_wp2
    go_ret
    exact ⟨rfl, hs15⟩
end Go.Proofs.Ytekjddcckkelnaa
