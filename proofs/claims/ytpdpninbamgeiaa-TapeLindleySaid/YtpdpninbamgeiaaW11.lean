/- tape: the walk of TapeFair. -/
import Derived.Test.YtpdpninbamgeiaaW10
namespace Go.Proofs.Ytpdpninbamgeiaa
open Go.RowKit HeapM

theorem fate_at {w : World} {g n : Nat} {out : Nat → Int × Int} (h : w.rowIs g 30 (n * 2) (fateF out)) {k : Nat} (hk : k < n) :
    w.cell? ⟨g, k * 2, none⟩ = some (.int .i64 (out k).1) ∧ w.cell? ⟨g, k * 2 + 1, none⟩ = some (.int .i64 (out k).2) := by
  have h1 := h.cell (i := k * 2) (by omega)
  have h2 := h.cell (i := k * 2 + 1) (by omega)
  refine ⟨by rw [h1]; unfold fateF; rw [if_pos (by omega), Nat.mul_div_cancel _ (by omega)], by rw [h2]; unfold fateF; rw [if_neg (by omega), show (k * 2 + 1) / 2 = k by omega]⟩
set_option maxHeartbeats 8000000 in
set_option maxRecDepth 100000 in
theorem fair_any {Aj : Option Addr} {cap : Nat} {js : List Tri} {M : Int} {w : World} (h : TriAt w Aj js) (hlen : js.length ≤ 9223372036854775807) (hM : -9223372036854775808 ≤ M ∧ M ≤ 9223372036854775807) :
    Calls Try.prog 3 #[.slice Aj js.length cap, .int .i64 M] w (TruePost w) := by
  by_cases p1 : 40 < js.length
  · go_enter Try.func3, Try.ntmps3
    go_wp2
    go_ret
    exact ⟨rfl, World.Since.refl _ _⟩
  have p2 : js.length ≤ 40 := by omega
  clear p1
  by_cases hok : CallsOk js ∧ 0 ≤ M ∧ M ≤ 20
  · obtain ⟨hok, m0, m1⟩ := hok
    obtain ⟨A, rfl⟩ : ∃ A : Nat, M = (A : Int) := ⟨M.toNat, by omega⟩
    have HP := Lib.hid (Play_ok2 (cap := cap) h hok (A := A) (by omega))
    have HJ := Lib.hid h
    have HO := Lib.hid hok
    clear h hok
    go_enter Try.func3, Try.ntmps3
    go_wp2_with fail
    refine HP.out.mono ?_
    rintro e w1 ⟨g, out, rfl, hp⟩
    have HF : Hid (TapeM.Fair js.length A (aT js) (lO js) (pA js) out) := Lib.hid (let ⟨_, _, _, _, hr⟩ := hp.reach; TapeM.reach_fair HO.out.plain hr)
    have HP1 := Lib.hid hp
    clear hp HP
    go_wp2_with fail
    refine (called_any w1).mono ?_
    rintro e w2 ⟨rfl, hs2⟩
    have HS := Lib.hid (since_joinT HP1.out.since hs2)
    have HR := Lib.hid (HP1.out.row.of_block (hs2.block _ HP1.out.row.lt))
    clear HP1 hs2
    go_wp2
    go_loopg [7] js.length (fun gh iv wr => ∃ (k m : Nat), k ≤ js.length ∧ gh = js.length - k ∧ iv = .int .i64 k ∧ wr = w2.drewN m)
    case atStart => exact ⟨0, 0, Nat.zero_le _, rfl, rfl, rfl⟩
    case round =>
      obtain ⟨k, m, hk, rfl, rfl, rfl⟩ := hrel
      by_cases hkl : k < js.length
      · have hkz : (k : Int) < (js.length : Int) := by omega
        obtain ⟨b, off, rfl, hb, hc⟩ := HJ.out k hkl
        obtain ⟨x, hx⟩ : ∃ x, js[k]? = some x := ⟨js[k], List.getElem?_eq_getElem hkl⟩
        obtain ⟨d0, _, d2⟩ := hc k x hx
        obtain ⟨e0, _, e2⟩ := tri_at hx
        rw [← HS.out.cell (show b < w.heap.size from hb)] at d0 d2
        have hat := HO.out.plain.at_ k hkl
        have hpa := HO.out.plain.pa k hkl
        obtain ⟨f1, f2, f3, f4⟩ := HF.out.each k hkl
        obtain ⟨r0, r1⟩ := fate_at HR.out hkl
        have Hc := Lib.hid hc
        obtain ⟨y1, hy1⟩ : ∃ y1, y1 = (out k).1 := ⟨_, rfl⟩
        obtain ⟨y2, hy2⟩ : ∃ y2, y2 = (out k).2 := ⟨_, rfl⟩
        rw [← hy1] at r0 f3 f4
        rw [← hy2] at r1 f1 f2 f3
        have Hy1 := Lib.hid hy1
        have Hy2 := Lib.hid hy2
        rw [e0] at f1 f2 f3 hat
        rw [e2] at f2 f3 hpa
        generalize x.1 = x0 at d0 f1 f2 f3 hat
        generalize x.2.2 = x2 at d2 f2 f3 hpa
        clear hc hx e0 e2 hy1 hy2
        have q1 : 0 ≤ y2 - x0 := by omega
        have q2 : y2 - x0 ≤ x2 := by omega
        have z1 : decide (y2 - x0 < 0) = false := decide_eq_false (by omega)
        have z2 : decide (x2 < y2 - x0) = false := decide_eq_false (by omega)
        have z4 : decide ((A : Int) ≤ y1) = false := decide_eq_false (by omega)
        go_wp2
        go_quiet (fail)
        go_upto_region 12 with fail
        go_cut [8, 89] (fun av tv wx => (∃ z, av = .int .i64 z) ∧ tv = .bool false ∧ ∃ m2, wx = w2.drewN m2)
        case first => as_aux_lemma =>
          by_cases hn : y1 < 0
          · have z3 : (y2 - x0 == x2) = true := beq_iff_eq.2 (by have := f3 hn; omega)
            have z5 : decide (x2 < 0) = false := decide_eq_false (by omega)
            go_wp2
            go_meet
            case rel => exact ⟨⟨_, rfl⟩, rfl, _, rfl⟩
          · have hn' : 0 ≤ y1 := by omega
            clear hn
            go_wp2
            go_meet
            case rel => exact ⟨⟨_, rfl⟩, rfl, _, rfl⟩
        case rest =>
          obtain ⟨⟨zz, rfl⟩, rfl, m2, rfl⟩ := hcut
          clear d0 d2 r0 r1 z1 z2 z4 q1 q2
          go_wp2
          go_loopg [9] k (fun gh iv wr => ∃ (j m : Nat), j ≤ k ∧ gh = k - j ∧ iv = .int .i64 j ∧ wr = w2.drewN m)
          case atStart => exact ⟨0, _, Nat.zero_le _, rfl, rfl, rfl⟩
          case round =>
            obtain ⟨j, m3, hj, rfl, rfl, rfl⟩ := hrel
            by_cases hjk : j < k
            · have hjz : (j : Int) < (k : Int) := by omega
              have hjl : j < js.length := by omega
              have hjlz : (j : Int) < (js.length : Int) := by omega
              obtain ⟨x, hx⟩ : ∃ x, js[j]? = some x := ⟨js[j], List.getElem?_eq_getElem hjl⟩
              obtain ⟨_, d1, _⟩ := Hc.out j x hx
              obtain ⟨_, e1, _⟩ := tri_at hx
              rw [← HS.out.cell (show b < w.heap.size from hb)] at d1
              have hlo := HO.out.plain.lo j hjl
              have hat2 := HO.out.plain.at_ j hjl
              have hpa2 := HO.out.plain.pa j hjl
              have f5 := HF.out.two j k hjk hkl
              obtain ⟨g1, g2, _, _⟩ := HF.out.each j hjl
              obtain ⟨r0, r1⟩ := fate_at HR.out hkl
              obtain ⟨s0, s1⟩ := fate_at HR.out hjl
              rw [← Hy1.out] at r0 f5
              rw [← Hy2.out] at r1 f5
              obtain ⟨v1, hv1⟩ : ∃ v1, v1 = (out j).1 := ⟨_, rfl⟩
              obtain ⟨v2, hv2⟩ : ∃ v2, v2 = (out j).2 := ⟨_, rfl⟩
              rw [← hv1] at s0 f5
              rw [← hv2] at s1 f5 g1 g2
              rw [e1] at hlo f5
              generalize x.2.1 = x1 at d1 hlo f5
              have b1 : 0 ≤ v2 := by omega
              have b2 : v2 ≤ 2000000000 := by omega
              have b3 : 0 ≤ y2 := by omega
              have b4 : y2 ≤ 2000000000 := by omega
              clear hx e1 hv1 hv2 hat2 hpa2 g1 g2
              by_cases hv : v1 < 0
              · have z1 : decide (0 ≤ v1) = false := decide_eq_false (by omega)
                clear f5 hv
                go_wp2
                go_quiet (fail)
                go_wp2
                go_quiet (fail)
                go_wp2
                go_roundg (k - (j + 1))
                case measure => go_light; omega
                case rel => go_light; exact ⟨j + 1, _, by omega, rfl, by go_num, rfl⟩
              · have hv' : 0 ≤ v1 := by omega
                obtain ⟨f6, f7⟩ := f5 hv'
                clear f5 hv
                by_cases hy : y1 < 0
                · have z1 : decide (0 ≤ y1) = false := decide_eq_false (by omega)
                  have z2 : (v1 == y1) = false := beq_eq_false_iff_ne.2 (by omega)
                  clear f6 f7 hy
                  go_wp2
                  go_quiet (fail)
                  go_wp2
                  go_quiet (fail)
                  go_wp2
                  go_roundg (k - (j + 1))
                  case measure => go_light; omega
                  case rel => go_light; exact ⟨j + 1, _, by omega, rfl, by go_num, rfl⟩
                · have hy' : 0 ≤ y1 := by omega
                  have z1 : decide (y2 < v2) = false := decide_eq_false (by have := f6 hy'; omega)
                  clear f6 hy
                  by_cases he : v1 = y1
                  · subst he
                    have z2 : decide (y2 < v2 + x1) = false := decide_eq_false (by have := f7 rfl; omega)
                    clear f7
                    go_wp2
                    go_quiet (fail)
                    go_wp2
                    go_quiet (fail)
                    go_wp2
                    go_roundg (k - (j + 1))
                    case measure => go_light; omega
                    case rel => go_light; exact ⟨j + 1, _, by omega, rfl, by go_num, rfl⟩
                  · have z2 : (v1 == y1) = false := beq_eq_false_iff_ne.2 he
                    clear f7 he
                    go_wp2
                    go_quiet (fail)
                    go_wp2
                    go_quiet (fail)
                    go_wp2
                    go_roundg (k - (j + 1))
                    case measure => go_light; omega
                    case rel => go_light; exact ⟨j + 1, _, by omega, rfl, by go_num, rfl⟩
            · obtain rfl : k = j := by omega
              go_wp2
              go_roundg (js.length - (k + 1))
              case measure => go_light; omega
              case rel => go_light; exact ⟨k + 1, _, by omega, rfl, by go_num, rfl⟩
      · obtain rfl : js.length = k := by omega
        go_wp2
        go_ret
        exact ⟨rfl, since_drewN HS.out _⟩
  · have HP := Lib.hid (Play_bad (cap := cap) h hlen hok)
    clear h hok
    go_enter Try.func3, Try.ntmps3
    go_wp2_with fail
    refine HP.out.mono ?_
    rintro e w1 ⟨hs1, k, rfl⟩
    have S1 := Lib.hid hs1
    clear hs1 HP
    go_wp2_with fail
    refine (called_any w1).mono ?_
    rintro e w2 ⟨rfl, hs2⟩
    have S2 := Lib.hid (since_joinT S1.out hs2)
    clear S1 hs2
    go_wp2_with fail
    refine (called_any w2).mono ?_
    rintro e w3 ⟨rfl, hs3⟩
    have S3 := Lib.hid (since_joinT S2.out hs3)
    clear S2 hs3
    go_wp2
    go_ret
    exact ⟨rfl, S3.out⟩
end Go.Proofs.Ytpdpninbamgeiaa
