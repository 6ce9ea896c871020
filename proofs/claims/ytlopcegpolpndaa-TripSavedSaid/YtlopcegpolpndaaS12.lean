/- trip: Savings. -/
import Derived.Test.YtlopcegpolpndaaS11
import Derived.Deep.DeepCutAuto
import Derived.Deep.CutBlock
import Derived.Deep.RegionHeld3
import Derived.Deep.AppendLies
namespace Go.Proofs.Ytlopcegpolpndaa
open Go.RowKit Go.Maps TripM SavedM

def SavPost (m : List (List Int)) (ws : List Int) (room : Int) (w : World) (e : Ending) (w' : World) : Prop :=
  w.Since w.heap.size w' ∧ ∃ (ts : List (List Nat)) (A : Option Addr) (c : Nat), e = .returned (.tuple #[.slice A ts.length c, .nilIface]) ∧ Saved (dOf m) m.length (wF ws) room ts ∧ MapAt w' A (ts.map natsZ)

theorem neq43 (a : Option Addr) (l c : Nat) (W : World) : (binOp .neq 43 (.slice a l c) (.slice none 0 0)).run Try.prog W = .ok (.bool (!a.isNone)) W := run_neq_slice_nil W 43 3 a l c Try.underlying43
theorem enters25 : ∀ args w, (callFunc 25 args).run Try.prog w = .ok (.enter 25 args) w := fun _ _ => by kernel_rfl
theorem own_one (w : World) (B i : Nat) (hB : B ≤ w.heap.size) : (w.alloc (.cells #[.int .i64 (i : Int)] 3)).ownsRow B 3 1 (.slice (some ⟨w.heap.size, 0, none⟩) 1 1) [i].length (natsV3 [i]) :=
  ⟨rfl, .inr ⟨w.heap.size, 1, #[.int .i64 (i : Int)], rfl, hB, heap_alloc_new w _, Nat.le_refl _, by unfold maxLen; omega, rfl, rfl⟩⟩

set_option maxHeartbeats 16000000 in
set_option maxRecDepth 100000 in
theorem Savings_ok {A Wt : Option Addr} {cap capw : Nat} {m : List (List Int)} {ws : List Int} {room : Int} {w : World} (h : MapAt w A m) (t : MapOk m) (hW : IntsAt w Wt ws) (hl : ws.length = m.length)
    (h0 : ∀ i, 0 ≤ wF ws i ∧ wF ws i ≤ 1000000000) (hr : ∀ i, 1 ≤ i → i < m.length → wF ws i ≤ room) :
    Calls Try.prog 14 #[.slice A m.length cap, .slice Wt ws.length capw, .int .i64 room] w (SavPost m ws room w) := by
  have hfew := t.few
  have hlb : ws.length ≤ 9 := by omega
  have HM := Lib.hid h
  have HT := Lib.hid t
  have HWs := Lib.hid hW
  have H0 := Lib.hid h0
  have HR := Lib.hid hr
  have hlz : ((ws.length : Int) != (m.length : Int)) = false := by rw [bne_eq_false_iff_eq]; omega
  have hmm := @run_makeMap Try.prog
  have hnq := neq43
  have HL := Lib.hid hl
  obtain ⟨p, hpz⟩ : ∃ p, p = w.heap.size := ⟨_, rfl⟩
  have hs1 : w.Since w.heap.size (w.alloc (.cells #[.slice Wt ws.length capw] 23)) := (World.Since.refl _ _).alloc (Nat.le_refl _) _
  have hc1 : (w.alloc (.cells #[.slice Wt ws.length capw] 23)).cell? ⟨p, 0, none⟩ = some (.slice Wt ws.length capw) := by rw [World.cell?_alloc_at _ _ _ _ hpz]; rfl
  have hz1 : (w.alloc (.cells #[.slice Wt ws.length capw] 23)).heap.size = p + 1 := by simp [hpz]
  have HZ1 := Lib.hid hz1
  have HS1 := Lib.hid hs1
  have HPz := Lib.hid hpz
  clear h t hW h0 hr hl hs1 hz1
  go_enter Try.func14, Try.ntmps14
  go_upto_block 1 with fail
  rw [← hpz]
  clear hpz
  generalize w.alloc (.cells #[.slice Wt ws.length capw] 23) = w1 at *
  have HM1 := Lib.hid (HM.out.since HS1.out)
  have HW1 := Lib.hid (HWs.out.since (Nat.le_refl _) HS1.out)
  go_wp2_with fail
  refine (Check_ok HM1.out HT.out).mono ?_
  rintro e w2 ⟨rfl, rfl⟩
  go_wp2
  go_loopg [38] ws.length (fun gh iv wr => ∃ k : Nat, k ≤ ws.length ∧ gh = ws.length - k ∧ iv = .int .i64 (k : Int) ∧ w1 = wr)
  case atStart => exact ⟨0, Nat.zero_le _, rfl, rfl, rfl⟩
  case round =>
    obtain ⟨k, hk, rfl, rfl, rfl⟩ := hrel
    by_cases hkl : k < ws.length
    · as_aux_lemma =>
      have hkz : (k : Int) < (ws.length : Int) := by omega
      obtain ⟨b, off, rfl, hb, hc⟩ := HW1.out k hkl
      have d0 := hc k (wF ws k) (by unfold wF; rw [List.getD_eq_getElem?_getD, List.getElem?_eq_getElem hkl]; rfl)
      have hq := H0.out k
      have hq2 := HR.out k
      rw [← HL.out] at hq2
      generalize wF ws k = q at *
      obtain ⟨q0, q1⟩ := hq
      clear hc
      by_cases hk0 : 0 < k
      · have hk0z : (0 : Int) < (k : Int) := by omega
        have hq3 := hq2 (by omega) hkl
        clear hq2
        go_wp2
        go_roundg (ws.length - (k + 1))
        case measure => go_light; omega
        case rel => go_light; exact ⟨k + 1, by omega, rfl, by go_num, rfl⟩
      · obtain rfl : k = 0 := by omega
        rw [Nat.add_zero] at d0
        clear hq2
        go_wp2
        go_roundg (ws.length - (0 + 1))
        case measure => go_light; omega
        case rel => go_light; exact ⟨1, by omega, rfl, by go_num, rfl⟩
    · obtain rfl : ws.length = k := by omega
      obtain ⟨b, hbz⟩ : ∃ b, b = w1.heap.size := ⟨_, rfl⟩
      have hst : TMem w1 (w1.alloc (.map #[] 0)) b (b + 1) 0 m.length (trI 1) (fun _ => none) := by
        rw [hbz]
        refine ⟨(World.Since.refl _ _).alloc (Nat.le_refl _) _, tm_made w1, Nat.le_refl _, Nat.lt_succ_self _, by simp, fun i v hv => ?_, fun i hi => ?_, fun i hi => ?_, fun i j u v _ hu => ?_⟩
        · cases hv
        · exact absurd rfl hi
        · exact absurd (by unfold trI; rw [if_neg (by omega)]) hi
        · cases hu
      have HST := Lib.hid hst
      have HBz := Lib.hid hbz
      go_upto_region 16 with fail
      rw [← hbz]
      clear hst hbz
      generalize w1.alloc (.map #[] 0) = w2 at *
      have HQ2 : Hid (w2.ownsRow (b + 1) 55 3 (.slice none 0 0) ([] : List Sav).length (savsV [])) := Lib.hid (World.ownsRow_nil _ _ _ _)
      go_wp2
      go_loopg [11, 13] (m.length - 1) (fun gh lvv iv wr => ∃ (i c : Nat) (lv : Value) (ls : List Sav) (sv : Int → Option Value), 1 ≤ i ∧ (i ≤ m.length ∨ i ≤ 1) ∧ c ≤ i ∧ ls.length + 10 ≤ 10 * i ∧ gh = m.length - i ∧ iv = .int .i64 (i : Int) ∧ lvv = lv ∧ Hid (TMem w1 wr b (b + 1) c m.length (trI i) sv) ∧ Hid (wr.ownsRow (b + 1) 55 3 lv ls.length (savsV ls)) ∧ Hid (ls = [] → lv = .slice none 0 0) ∧ Hid (∀ s ∈ ls, SavOk m s))
      case atStart => exact ⟨1, 0, _, [], _, by omega, by omega, by omega, by simp, rfl, rfl, rfl, HST, HQ2, Lib.hid (fun _ => rfl), Lib.hid (by simp)⟩
      case round =>
        clear HST HQ2
        obtain ⟨i, c, lv, ls, sv, hi1, hin, hci, hll, rfl, rfl, rfl, hM, hQ, hN, hS⟩ := hrel
        by_cases him : i < m.length
        · have hiz : (i : Int) < (m.length : Int) := by omega
          have hti : trI i i = [] := by unfold trI; rw [if_neg (by omega)]
          have Hti := Lib.hid hti
          have hal := hM.out.alloc (.cells #[.int .i64 (i : Int)] 3)
          have hMp := hal.map
          clear hal hti
          go_wp2_with (at_mapUpdate; refine tm_update rfl _ _ _ rfl hMp rfl (by unfold maxLen; omega) (i : Int) (WalkArith.wf_i64 (by omega)) rfl (some ⟨wr.heap.size, 0, none⟩) 1 1 rfl ?_; intro w3 hm3 hg3)
          have HM3 := Lib.hid (hM.out.lay (t := [i]) ⟨hi1, him⟩ Hti.out (by simp) ((World.Since.refl _ _).alloc (Nat.le_refl _) (.cells #[.int .i64 (i : Int)] 3)) (own_one wr (b + 1) i hM.out.base) (fun g hg => by simp [Value.ownBlock] at hg; omega) hg3 hm3)
          have HQ3 := Lib.hid (sav_stays (hM.out.alloc (.cells #[.int .i64 (i : Int)] 3)) (hQ.out.alloc _) hg3 (.inr (.inl rfl)))
          rw [trI_next hi1] at HM3
          clear hMp hm3 hg3 hM hQ Hti
          generalize updO sv (i : Int) (some (Value.slice (some ⟨wr.heap.size, 0, none⟩) 1 1)) = sv3 at *
          go_loopg [11, 14] (m.length - 1) (fun gh lvv kv wq => ∃ (k : Nat) (lv : Value) (ls : List Sav), 1 ≤ k ∧ (k ≤ m.length ∨ k ≤ 1) ∧ ls.length + 10 ≤ 10 * i + k ∧ gh = m.length - k ∧ kv = .int .i64 (k : Int) ∧ lvv = lv ∧ Hid (TMem w1 wq b (b + 1) (c + 1) m.length (trI (i + 1)) sv3) ∧ Hid (wq.ownsRow (b + 1) 55 3 lv ls.length (savsV ls)) ∧ Hid (ls = [] → lv = .slice none 0 0) ∧ Hid (∀ s ∈ ls, SavOk m s))
          case atStart => exact ⟨1, _, ls, by omega, by omega, by omega, rfl, rfl, rfl, HM3, HQ3, hN, hS⟩
          case round =>
            clear HM3 HQ3 hN hS hll
            obtain ⟨k, lv, ls, hk1, hkn, hll, rfl, rfl, rfl, hM, hQ, hN, hS⟩ := hrel
            by_cases hkm : k < m.length
            · have hkz : (k : Int) < (m.length : Int) := by omega
              have hmp := HM1.out.since hM.out.since
              obtain ⟨ba, oa, A1, c1, rfl, _, d1, r1⟩ := HT.out.at_ hmp him
              obtain ⟨ba', oa', A0, c0, e0, _, d2, r0⟩ := HT.out.at_ hmp (i := 0) (by omega)
              cases e0
              obtain ⟨b1, o1, rfl, _, g1⟩ := r1 0 (by omega)
              obtain ⟨b1', o1', e1, _, g2⟩ := r1 k hkm
              cases e1
              obtain ⟨b0, o0, rfl, _, g3⟩ := r0 k hkm
              clear r0 r1 hmp
              rw [Nat.add_zero] at d2 g1
              have b1 := dOf_bd HT.out i 0
              have b2 := dOf_bd HT.out 0 k
              have b3 := dOf_bd HT.out i k
              obtain ⟨x, hx⟩ : ∃ x, x = dOf m i 0 := ⟨_, rfl⟩
              obtain ⟨y, hy⟩ : ∃ y, y = dOf m 0 k := ⟨_, rfl⟩
              obtain ⟨z, hz⟩ : ∃ z, z = dOf m i k := ⟨_, rfl⟩
              rw [← hx] at b1 g1
              rw [← hy] at b2 g3
              rw [← hz] at b3 g2
              have HX := Lib.hid hx
              have HY := Lib.hid hy
              have HZ := Lib.hid hz
              clear hx hy hz
              obtain ⟨u0, u1⟩ := b1
              obtain ⟨v0, v1⟩ := b2
              obtain ⟨z0, z1⟩ := b3
              by_cases hyes : i ≠ k ∧ 0 < x + y - z
              · obtain ⟨hne, hpos⟩ := hyes
                have hbz : ((i : Int) != (k : Int)) = true := by rw [bne_iff_ne]; omega
                have HNE := Lib.hid hne
                clear hne
                go_wp2
                go_quiet (fail)
                obtain ⟨i0, hi0, hz0, hz1, hz2⟩ := info_parts infoSav
                have Hi0 := Lib.hid hi0
                have Hz0 := Lib.hid hz0
                have Hz1 := Lib.hid hz1
                have Hz2 := Lib.hid hz2
                clear hi0 hz0 hz1 hz2
                have hown2 : ((wr.drewN nq).alloc (.cells #[.int .i64 (x + y - z), .int .i64 (i : Int), .int .i64 (k : Int)] 55)).ownsRow (b + 1) 55 3 u11 ls.length (savsV ls) := World.ownsRow.alloc (w := wr.drewN nq) hQ.out _
                have hB2 : b + 1 ≤ ((wr.drewN nq).alloc (.cells #[.int .i64 (x + y - z), .int .i64 (i : Int), .int .i64 (k : Int)] 55)).heap.size := by have := hM.out.base; simp; omega
                have HM7 := Lib.hid (TMem.alloc (wr := wr.drewN nq) (TMem.grown (row := none) hM.out ⟨rfl, rfl, rfl, Nat.le_refl _, fun _ _ _ => rfl⟩ rfl) (.cells #[.int .i64 (x + y - z), .int .i64 (i : Int), .int .i64 (k : Int)] 55))
                have Hown2 := Lib.hid hown2
                clear hM hQ
                go_wp2_with (at_builtin; refine wpList_append_own _ rfl _ _ 52 rfl (b + 1) 55 i0 _ 3 24 Try.underlying52 Hi0.out Hz0.out Hz1.out Hz2.out rfl (by decide) _ _ _ rfl hown2 ⟨(wr.drewN nq).heap.size, 0, none⟩ 1 1 (savV (x + y - z, (i : Int), (k : Int))) rfl rfl (savV_new _ _ _ _) (by intro u hu; simp [savV] at hu; rcases hu with rfl | rfl | rfl <;> rfl) (by unfold maxLen; omega) (by omega) hB2 ?_; intro v8 w8 hown8 hg8 hn8)
                have HM8 := Lib.hid (HM7.out.other Hown2.out hg8)
                have HQ8 := Lib.hid hown8
                have HN8 := Lib.hid hn8
                clear hown8 hg8 hn8 hown2 hB2 HM7 Hown2
                go_roundg (m.length - (k + 1))
                case measure => go_light; omega
                case rel =>
                  go_light
                  refine ⟨k + 1, _, ls ++ [(x + y - z, (i : Int), (k : Int))], by omega, by omega, by simp; omega, rfl, by go_num, rfl, HM8, Lib.hid ?_, Lib.hid (fun e => by simp at e), Lib.hid (fun s hs => ?_)⟩
                  · rw [savsV_snoc, List.length_append]; exact HQ8.out
                  · rcases List.mem_append.1 hs with h1 | h1
                    · exact hS.out s h1
                    · simp at h1
                      subst h1
                      refine ⟨i, k, by rw [← HX.out, ← HY.out, ← HZ.out], hi1, him, hk1, hkm, HNE.out, by rw [← HX.out, ← HY.out, ← HZ.out]; exact hpos⟩
              · have hno : (i : Int) = (k : Int) ∨ (i ≠ k ∧ x + y - z ≤ 0) := by omega
                clear hyes
                rcases hno with he | ⟨hne, he⟩
                · have hbz : ((i : Int) != (k : Int)) = false := by rw [bne_eq_false_iff_eq]; exact he
                  clear he
                  go_wp2
                  go_quiet (fail)
                  go_wp2
                  have HM8 := Lib.hid (TMem.grown (w' := wr.drewN nq) (row := none) hM.out ⟨rfl, rfl, rfl, Nat.le_refl _, fun _ _ _ => rfl⟩ rfl)
                  go_roundg (m.length - (k + 1))
                  case measure => go_light; omega
                  case rel => go_light; exact ⟨k + 1, _, ls, by omega, by omega, by omega, rfl, by go_num, rfl, HM8, hQ, hN, hS⟩
                · have hbz : ((i : Int) != (k : Int)) = true := by rw [bne_iff_ne]; omega
                  clear hne
                  go_wp2
                  go_quiet (fail)
                  go_wp2
                  have HM8 := Lib.hid (TMem.grown (w' := wr.drewN nq) (row := none) hM.out ⟨rfl, rfl, rfl, Nat.le_refl _, fun _ _ _ => rfl⟩ rfl)
                  go_roundg (m.length - (k + 1))
                  case measure => go_light; omega
                  case rel => go_light; exact ⟨k + 1, _, ls, by omega, by omega, by omega, rfl, by go_num, rfl, HM8, hQ, hN, hS⟩
            · have hkm' : m.length ≤ k := by omega
              go_wp2
              go_roundg (m.length - (i + 1))
              case measure => go_light; omega
              case rel => go_light; exact ⟨i + 1, c + 1, _, ls, sv3, by omega, by omega, by omega, by omega, rfl, by go_num, rfl, hM, hQ, hN, hS⟩
        · have hte := trI_end (i := i) (n := m.length) (by omega) (by omega)
          rw [hte] at hM
          have HSv : Hid (Sv (dOf m) m.length (wF ws) room (SavedM.one m.length)) := Lib.hid (sv_start HR.out)
          have C1 := Lib.hid (Sort_any hQ.out (by omega) hN.out)
          clear hte hN
          have hll2 : ls.length ≤ 100 := by omega
          have hc2 : c ≤ 10 := by omega
          clear hll hci hi1 hin
          go_wp2_with fail
          refine C1.out.mono ?_
          rintro e w5 ⟨rfl, l5, hp5, hq5, hg5⟩
          have HM5 := Lib.hid (hM.out.other hQ.out hg5)
          have HS5 : Hid (∀ s ∈ l5, SavOk m s) := Lib.hid (fun s hs => hS.out s (hp5.mem_iff.1 hs))
          have HQ5 := Lib.hid hq5
          have hl5 : l5.length ≤ 100 := by rw [hp5.length_eq]; exact hll2
          obtain ⟨A5, c5, e5, _, _⟩ := own_form hq5
          clear hM hQ hg5 hq5 hS hp5 hll2 C1 him
          subst e5
          go_wp2
          go_loopg [116] l5.length (fun gh iv wr => ∃ (k c : Nat) (tr : Nat → List Nat) (sv : Int → Option Value), k ≤ l5.length ∧ c ≤ 10 + k ∧ gh = l5.length - k ∧ iv = .int .i64 (k : Int) ∧ Hid (TMem w1 wr b (b + 1) c m.length tr sv) ∧ Hid (wr.ownsRow (b + 1) 55 3 (.slice A5 l5.length c5) l5.length (savsV l5)) ∧ Hid (Sv (dOf m) m.length (wF ws) room tr))
          case atStart => exact ⟨0, c, _, _, by omega, by omega, rfl, rfl, HM5, HQ5, HSv⟩
          case round =>
            clear HM5 HQ5 HSv hc2
            clear sv c
            obtain ⟨k, c, tr, sv, hk5, hc2, rfl, rfl, hM, hQ, hV⟩ := hrel
            by_cases hkl : k < l5.length
            · have hkz : (k : Int) < (l5.length : Int) := by omega
              obtain ⟨s, hs⟩ : ∃ s, l5[k]? = some s := ⟨l5[k], List.getElem?_eq_getElem hkl⟩
              obtain ⟨i0, k0, rfl, hi1, hin, hk1, hkn, hne, hpos⟩ := HS5.out s (List.mem_of_getElem? hs)
              obtain ⟨g5, c5', e5, hg5, hlt5, x0, x1, x2⟩ := sav_cells hQ.out hs
              injection e5 with e5 _ e6
              subst e5 e6
              simp only [Nat.zero_add, Nat.add_zero] at x0 x1 x2
              obtain ⟨x, hx⟩ : ∃ x, x = dOf m i0 0 + dOf m 0 k0 - dOf m i0 k0 := ⟨_, rfl⟩
              have HX := Lib.hid hx
              rw [← hx] at hpos
              simp only [← hx] at x0 x1 x2
              have Hpos := Lib.hid hpos
              clear hs hx hpos
              obtain ⟨px, hpx⟩ : ∃ px, px = wr.heap.size := ⟨_, rfl⟩
              have hm6 := hM.out.alloc (.cells #[.int .i64 x, .int .i64 (i0 : Int), .int .i64 (k0 : Int)] 55)
              have hq6 := hQ.out.alloc (.cells #[.int .i64 x, .int .i64 (i0 : Int), .int .i64 (k0 : Int)] 55)
              have y1 : (wr.alloc (.cells #[.int .i64 x, .int .i64 (i0 : Int), .int .i64 (k0 : Int)] 55)).cell? ⟨px, 1, none⟩ = some (.int .i64 (i0 : Int)) := by rw [World.cell?_alloc_at _ _ _ _ hpx]; rfl
              have y2 : (wr.alloc (.cells #[.int .i64 x, .int .i64 (i0 : Int), .int .i64 (k0 : Int)] 55)).cell? ⟨px, 2, none⟩ = some (.int .i64 (k0 : Int)) := by rw [World.cell?_alloc_at _ _ _ _ hpx]; rfl
              have hz6 : (wr.alloc (.cells #[.int .i64 x, .int .i64 (i0 : Int), .int .i64 (k0 : Int)] 55)).heap.size = px + 1 := by simp [hpx]
              have HLow : Hid (∀ (f : Nat) (v : Value), sv (f : Int) = some v → v.ownBlock ≠ some px) := Lib.hid (fun f v hv e => by
                obtain ⟨g, c', rfl, _, h2, _⟩ := hM.out.form hv
                simp [Value.ownBlock] at e
                omega)
              have HM6 := Lib.hid hm6
              have HQ6 := Lib.hid hq6
              have HBp : Hid (b + 1 ≤ px) := Lib.hid (by rw [hpx]; exact hM.out.base)
              clear hm6 hq6 hM hQ
              go_upto_region 31 with fail
              rw [← hpx]
              clear hpx x0 x1 x2 hlt5
              generalize wr.alloc (.cells #[.int .i64 x, .int .i64 (i0 : Int), .int .i64 (k0 : Int)] 55) = w6 at *
              have hmap6 := HM6.out.map
              go_wp2_with (at_range; refine tm_range rfl _ rfl hmap6 rfl ?_; intro w7 cnt hr7 hg7 hz7)
              rw [hz6] at hr7
              have HR7 := Lib.hid hr7
              have HS7 : Hid (w6.Since (px + 1) w7) := Lib.hid (by rw [← hz6]; exact ⟨hg7.os, hg7.tape, hg7.output, hg7.size, fun k hk => hg7.block k hk (by simp)⟩)
              have HRz := Lib.hid hz6
              clear hmap6 hr7 hg7 hz7 hz6
              go_loopg [19] cnt (fun gh _ wq => ∃ cnt, gh = cnt ∧ Hid (TRan wq b (px + 1) c sv cnt) ∧ Hid (w6.Since (px + 1) wq))
              case atStart => exact ⟨cnt, rfl, HR7, HS7⟩
              case round =>
                clear HR7 HS7
                clear cnt
                obtain ⟨cnt, rfl, hR, hS⟩ := hrel
                have hR0 := hR.out
                go_wp2_with (at_next; refine tm_next rfl _ rfl hR0 rfl ?_ ?_)
                · have hm9 := HM6.out.grown (since_gb (by have := hS.out; rw [← HRz.out] at this; exact this)) rfl
                  have hq9 := own_block HQ6.out (fun g hg => hS.out.block g (by have := (HQ6.out.lt g hg).2; rw [HRz.out] at this; exact this))
                  have HM9 := Lib.hid hm9
                  have HQ9 := Lib.hid hq9
                  go_roundg (l5.length - (k + 1))
                  case measure => go_light; omega
                  case rel => go_light; exact ⟨k + 1, c, tr, sv, by omega, by omega, rfl, by go_num, HM9, HQ9, hV⟩
                · intro i8 A8 n8 c8 w8 cnt8 hsv8 hr8 hlt8 hg8 hz8 hen8
                  have hS8 : w6.Since (px + 1) w8 := hS.out.grown hg8 (by have := hS.out.size; rw [HRz.out] at this; exact this) (fun k hk => by injection hk with hk; omega)
                  have hS8' : w6.Since w6.heap.size w8 := by rw [HRz.out]; exact hS8
                  obtain ⟨f, rfl⟩ := HM6.out.keys i8 (by rw [hsv8]; simp)
                  obtain ⟨g8, cc, e8, hBg, hglt, hcc, hI8⟩ := HM6.out.form hsv8
                  obtain ⟨hf1, hfn, hfne, hrow8⟩ := HM6.out.row f _ hsv8
                  injection e8 with e8 e9 e10
                  subst e8 e10
                  have hn8 : 0 < (tr f).length := List.length_pos_iff.2 hfne
                  rw [← e9] at hn8
                  obtain ⟨q, hq⟩ : ∃ q, n8 = q + 1 := ⟨n8 - 1, by omega⟩
                  obtain ⟨la, hla⟩ : ∃ la, (tr f)[q]? = some la := ⟨_, List.getElem?_eq_getElem (by omega)⟩
                  obtain ⟨b', o', hA, _, hc'⟩ := (hI8.since (Nat.le_refl _) hS8') q (by rw [natsZ_len]; omega)
                  have x8 := hc' q (la : Int) (by unfold natsZ; rw [List.getElem?_map, hla]; rfl)
                  cases hA
                  rw [Nat.zero_add] at x8
                  have y1 := y1
                  have y2 := y2
                  rw [← hS8.cell (a := ⟨px, 1, none⟩) (show px < px + 1 by omega)] at y1
                  rw [← hS8.cell (a := ⟨px, 2, none⟩) (show px < px + 1 by omega)] at y2
                  have HSv8 := Lib.hid hsv8
                  have HR8 := Lib.hid hr8
                  have HS8 := Lib.hid hS8'
                  have HE9 := Lib.hid e9
                  have HLa := Lib.hid hla
                  have HFne := Lib.hid hfne
                  have hqb := sv_len hV.out f
                  rw [← e9] at hqb
                  have HG8 : Hid (g8 < px + 1) := Lib.hid (by rw [HRz.out] at hglt; exact hglt)
                  clear hsv8 hr8 hg8 hz8 hS8 hS8' hI8 hc' e9 hla hfne hrow8 hR hS hR0 hglt
                  subst hq
                  by_cases hyes : la = i0 ∧ f ≠ k0
                  · obtain ⟨hla2, hfk⟩ := hyes
                    have hbb : ((la : Int) != (i0 : Int)) = false := by rw [bne_eq_false_iff_eq]; omega
                    have hbc : ((f : Int) == (k0 : Int)) = false := by rw [beq_eq_false_iff_ne]; omega
                    have HFK := Lib.hid hfk
                    have HLA := Lib.hid hla2
                    clear hfk hla2
                    go_wp2
                    go_quiet (fail)
                    have HS9 : Hid (w6.Since w6.heap.size (w8.drewN nq)) := Lib.hid (since_drewN HS8.out nq)
                    have HT9 : Hid (TMap (w8.drewN nq) b c sv) := Lib.hid (HR8.out.map.kept (row := none) ⟨rfl, rfl, rfl, Nat.le_refl _, fun _ _ _ => rfl⟩ (by simp))
                    have z2 : (w8.drewN nq).cell? ⟨px, 2, none⟩ = some (.int .i64 (k0 : Int)) := y2
                    clear hen8 HS8 HR8 x8 y1 y2 hbb hbc
                    generalize w8.drewN nq = w9 at *
                    have HM9 := Lib.hid (HM6.out.grown (since_gb HS9.out) rfl)
                    have HQ9 := Lib.hid (own_block HQ6.out (fun g hg => HS9.out.block g (HQ6.out.lt g hg).2))
                    have hlk := HT9.out.lookup (i := (k0 : Int)) (WalkArith.wf_i64 (by omega))
                    clear HM6 HQ6
                    cases hsk : sv (k0 : Int) with
                    | none =>
                      rw [hsk] at hlk
                      simp only [Option.getD] at hlk
                      clear hsk
                      go_wp2
                      go_roundg (l5.length - (k + 1))
                      case measure => go_light; omega
                      case rel => go_light; exact ⟨k + 1, c, tr, sv, by omega, by omega, rfl, by go_num, HM9, HQ9, hV⟩
                    | some vk =>
                      rw [hsk] at hlk
                      simp only [Option.getD] at hlk
                      obtain ⟨gk9, ck, rfl, hBk, hgk9, hck, hIk⟩ := HM9.out.form hsk
                      obtain ⟨_, _, hkne, _⟩ := HM9.out.row k0 _ hsk
                      obtain ⟨gf9, cf9, e9, _, _, _, hIf⟩ := HM9.out.form HSv8.out
                      injection e9 with e9 ea eb
                      injection e9 with e9
                      injection e9 with e9 _ _
                      subst e9 eb
                      clear ea
                      obtain ⟨nk, hnk⟩ : ∃ nk, nk = (tr k0).length := ⟨_, rfl⟩
                      have hkb := sv_len hV.out k0
                      have hlw := HS9.out
                      have hp9 : w9.cell? ⟨p, 0, none⟩ = some (.slice Wt ws.length capw) := by
                        rw [HM9.out.since.cell (show p < w1.heap.size by rw [HZ1.out]; omega)]; exact hc1
                      have hW9 := HW1.out.since (Nat.le_refl _) HM9.out.since
                      have C2 := Lib.hid (load_any (cap := c8) hIf hW9 hp9 (fun p hp => by rw [HL.out]; exact (sv_mem hV.out hp).1.2) H0.out (by have := HE9.out; omega))
                      have C3 := Lib.hid (load_any (cap := ck) hIk hW9 hp9 (fun p hp => by rw [HL.out]; exact (sv_mem hV.out hp).1.2) H0.out (by omega))
                      rw [← hnk] at hlk hsk hkb C3 hck
                      rw [← HE9.out] at C2
                      have Hnk := Lib.hid hnk
                      have Hsk := Lib.hid hsk
                      have Hkne := Lib.hid hkne
                      have b2 := load_bd H0.out (tr f)
                      have b3 := load_bd H0.out (tr k0)
                      rw [← hnk] at b3
                      rw [← HE9.out] at b2
                      obtain ⟨lf, hlf⟩ : ∃ lf, lf = SavedM.load (wF ws) (tr f) := ⟨_, rfl⟩
                      obtain ⟨lk, hlk2⟩ : ∃ lk, lk = SavedM.load (wF ws) (tr k0) := ⟨_, rfl⟩
                      have HLf := Lib.hid hlf
                      have HLk := Lib.hid hlk2
                      rw [← hlf] at b2
                      rw [← hlk2] at b3
                      obtain ⟨f0, f1⟩ := b2
                      obtain ⟨k1', k2'⟩ := b3
                      have f2 : lf ≤ 9000000000 := by omega
                      have k3' : lk ≤ 9000000000 := by omega
                      have D2 : Hid (Calls Try.prog 25 #[.slice (some ⟨g8, 0, none⟩) (q + 1) c8, .pointer (some ⟨p, 0, none⟩)] w9 fun e w' => e = .returned (.int .i64 lf) ∧ w9 = w') := Lib.hid (by rw [hlf]; exact C2.out)
                      have D3 : Hid (Calls Try.prog 25 #[.slice (some ⟨gk9, 0, none⟩) nk ck, .pointer (some ⟨p, 0, none⟩)] w9 fun e w' => e = .returned (.int .i64 lk) ∧ w9 = w') := Lib.hid (by rw [hlk2]; exact C3.out)
                      have HIk := Lib.hid hIk
                      clear C2 C3 hIf hIk hW9 hp9 hlw hnk hsk hkne hlf hlk2
                      have e25 := enters25
                      by_cases hroom : lf + lk ≤ room
                      · go_wp2_with fail
                        refine D2.out.mono ?_
                        rintro e w' ⟨rfl, rfl⟩
                        go_wp2_with fail
                        refine D3.out.mono ?_
                        rintro e w' ⟨rfl, rfl⟩
                        have hown : w9.ownsRow (b + 1) 3 1 (.slice (some ⟨g8, 0, none⟩) (q + 1) c8) (q + 1) (natsV3 (tr f)) := by
                          have := (HM9.out.row f _ HSv8.out).2.2.2
                          rw [← HE9.out] at this
                          exact this
                        have hnews := World.ownsRow.cells (HM9.out.row k0 _ Hsk.out).2.2.2 (g := gk9) rfl
                        have Hnews := Lib.hid hnews
                        have Hlen : Hid ((natsV3 (tr k0)).length = nk * 1) := Lib.hid (by rw [Hnk.out]; simp [natsV3])
                        have Hone : Hid (∀ u ∈ natsV3 (tr k0), u.oneCell' = true) := Lib.hid (fun u hu => by
                          obtain ⟨a, _, rfl⟩ := List.mem_map.1 hu
                          rfl)
                        have hnk0 : 0 < nk := by rw [Hnk.out]; exact List.length_pos_iff.2 Hkne.out
                        have HBw : Hid (b + 1 ≤ w9.heap.size) := Lib.hid HM9.out.base
                        have HTA : Hid (∀ wA, w9.grownBy wA (Value.slice (some ⟨g8, 0, none⟩) (q + 1) c8).ownBlock → TMap wA b c sv) := Lib.hid (fun wA hA => HT9.out.kept hA (by simp [Value.ownBlock]; omega))
                        have HDB : Hid (∀ wA wB, w9.grownBy wA (Value.slice (some ⟨g8, 0, none⟩) (q + 1) c8).ownBlock → wA.grownBy wB (some b) → wB.cell? ⟨px, 2, none⟩ = some (.int .i64 (k0 : Int))) := Lib.hid (fun wA wB hA hB => by
                          have h1 := hA.cell z2 (fun e => HLow.out f _ HSv8.out e.symm)
                          exact hB.cell h1 (by have := HBp.out; simp; omega))
                        obtain ⟨j0, hj0, hy0, hy1, hy2⟩ := info_parts info_intO
                        have Hj0 := Lib.hid hj0
                        have Hy0 := Lib.hid hy0
                        have Hy1 := Lib.hid hy1
                        have Hy2 := Lib.hid hy2
                        clear hj0 hy0 hy1 hy2 hnews D2 D3
                        go_wp2_with (first
                          | (at_builtin; refine wpList_append_lies _ rfl _ _ 43 rfl (b + 1) 3 j0 _ 1 8 Try.underlying43 Hj0.out Hy0.out Hy1.out Hy2.out rfl (by decide) _ _ _ rfl hown ⟨gk9, 0, none⟩ nk ck (natsV3 (tr k0)) rfl Hlen.out Hnews.out Hone.out hnk0 (by unfold maxLen; omega) (by omega) HBw.out _ rfl ?_; intro gA cA wA h1 h2 h3 h4; have HoA := Lib.hid h1; have HgA := Lib.hid h2; have HvA := Lib.hid h3; have tA := HTA.out _ h2; clear h1 h2 h3 h4)
                          | (at_mapUpdate; refine tm_update rfl _ _ _ rfl tA rfl (by unfold maxLen; omega) (f : Int) (WalkArith.wf_i64 (by omega)) rfl (some ⟨gA, 0, none⟩) (q + 1 + nk) cA rfl ?_; intro wB hmB hgB; have dB := HDB.out _ _ HgA.out hgB; clear tA)
                          | (at_delete; refine tm_delete rfl _ _ rfl hmB rfl (k0 : Int) (WalkArith.wf_i64 (by omega)) rfl ?_; intro wC hmC hgC))
                        have HMC : Hid (TMem w1 wC b (b + 1) (c + 1) m.length (SavedM.joined tr f k0) _) := Lib.hid (HM9.out.join HSv8.out Hsk.out HFK.out HgA.out (by rw [List.length_append, ← HE9.out, ← Hnk.out, natsV3_append]; exact HoA.out) (HvA.out.imp (fun e => e.symm) (fun e => ⟨gA, rfl, by omega⟩)) (hgB.trans hgC) hmC)
                        have HQC : Hid (wC.ownsRow (b + 1) 55 3 (Value.slice (some ⟨g5, 0, none⟩) l5.length c5) l5.length (savsV l5)) := Lib.hid (by
                          have h1 := sav_stays HM9.out HQ9.out HgA.out (.inr (.inr ⟨f, _, HSv8.out, rfl⟩))
                          exact own_block h1 (fun g hg => (hgB.trans hgC).block g (h1.lt g hg).2 (by have := (h1.lt g hg).1; intro e; injection e; omega)))
                        have HVC : Hid (Sv (dOf m) m.length (wF ws) room (SavedM.joined tr f k0)) := Lib.hid (sv_join hV.out HFne.out Hkne.out HFK.out ((last_of HLa.out HE9.out).trans HLA.out) (by rw [← HLf.out, ← HLk.out]; exact hroom) (by rw [← HX.out]; exact Hpos.out))
                        clear hmB hgB dB hmC hgC HoA HgA HvA hown
                        go_roundg (l5.length - (k + 1))
                        case measure => go_light; omega
                        case rel => go_light; exact ⟨k + 1, c + 1, _, _, by omega, by omega, rfl, by go_num, HMC, HQC, HVC⟩
                      · have hroom' : room < lf + lk := by omega
                        clear hroom
                        go_wp2_with fail
                        refine D2.out.mono ?_
                        rintro e w' ⟨rfl, rfl⟩
                        go_wp2_with fail
                        refine D3.out.mono ?_
                        rintro e w' ⟨rfl, rfl⟩
                        go_wp2
                        go_roundg (l5.length - (k + 1))
                        case measure => go_light; omega
                        case rel => go_light; exact ⟨k + 1, c, tr, sv, by omega, by omega, rfl, by go_num, HM9, HQ9, hV⟩
                  · by_cases hla2 : la = i0
                    · have hbb : ((la : Int) != (i0 : Int)) = false := by rw [bne_eq_false_iff_eq]; omega
                      have hbc : ((f : Int) == (k0 : Int)) = true := by rw [beq_iff_eq]; omega
                      clear hyes hla2
                      go_wp2
                      go_quiet (fail)
                      go_wp2
                      have HR9 : Hid (TRan (w8.drewN nq) b (px + 1) c sv cnt8) := Lib.hid (HR8.out.kept (row := none) ⟨rfl, rfl, rfl, Nat.le_refl _, fun _ _ _ => rfl⟩ (by simp) (by simp))
                      have HS9 : Hid (w6.Since (px + 1) (w8.drewN nq)) := Lib.hid (by have := since_drewN HS8.out nq; rw [HRz.out] at this; exact this)
                      go_roundg cnt8
                      case measure => go_light; omega
                      case rel => go_light; exact ⟨cnt8, rfl, HR9, HS9⟩
                    · have hbb : ((la : Int) != (i0 : Int)) = true := by rw [bne_iff_ne]; omega
                      clear hyes hla2
                      go_wp2
                      go_quiet (fail)
                      go_wp2
                      have HR9 : Hid (TRan (w8.drewN nq) b (px + 1) c sv cnt8) := Lib.hid (HR8.out.kept (row := none) ⟨rfl, rfl, rfl, Nat.le_refl _, fun _ _ _ => rfl⟩ (by simp) (by simp))
                      have HS9 : Hid (w6.Since (px + 1) (w8.drewN nq)) := Lib.hid (by have := since_drewN HS8.out nq; rw [HRz.out] at this; exact this)
                      go_roundg cnt8
                      case measure => go_light; omega
                      case rel => go_light; exact ⟨cnt8, rfl, HR9, HS9⟩
            · obtain ⟨j0, hj0, hy0, hy1, hy2⟩ := info_parts infoTour
              have Hj0 := Lib.hid hj0
              have Hy0 := Lib.hid hy0
              have Hy1 := Lib.hid hy1
              have Hy2 := Lib.hid hy2
              clear hj0 hy0 hy1 hy2
              have hkl2 : l5.length ≤ k := by omega
              generalize wr = wl at *
              go_wp2
              go_loopg [22, 23] (m.length - 1) (fun gh ov iv wq => ∃ (i : Nat) (vs : List Value), 1 ≤ i ∧ (i ≤ m.length ∨ i ≤ 1) ∧ gh = m.length - i ∧ iv = .int .i64 (i : Int) ∧ vs.length ≤ i ∧ Hid (wl.Since wl.heap.size wq) ∧ Hid (wq.ownsRow wl.heap.size 43 1 ov vs.length vs) ∧ Hid (Outs wl vs (rowk tr i)))
              case atStart => exact ⟨1, [], by omega, by omega, rfl, rfl, by simp, Lib.hid (World.Since.refl _ _), Lib.hid (World.ownsRow_nil _ _ _ _), Lib.hid ⟨rfl, fun j t ht => by simp [rowk] at ht⟩⟩
              case round =>
                obtain ⟨i, vs, hi1, hin, rfl, rfl, hvl, hS, hO, hU⟩ := hrel
                have hsz0 := hS.out.size
                by_cases him : i < m.length
                · have hiz : (i : Int) < (m.length : Int) := by omega
                  have hlk := (hM.out.grown (since_gb hS.out) rfl).map.lookup (i := (i : Int)) (WalkArith.wf_i64 (by omega))
                  cases hsk : sv (i : Int) with
                  | none =>
                    rw [hsk] at hlk
                    simp only [Option.getD] at hlk
                    have hti : tr i = [] := by
                      by_cases e : tr i = []
                      · exact e
                      · exact absurd hsk (hM.out.has i e)
                    have hU2 : Hid (Outs wl vs (rowk tr (i + 1))) := Lib.hid (by rw [rowk_next tr hi1, if_pos hti, List.append_nil]; exact hU.out)
                    clear hsk hti
                    go_wp2
                    go_roundg (m.length - (i + 1))
                    case measure => go_light; omega
                    case rel => go_light; exact ⟨i + 1, vs, by omega, by omega, rfl, by go_num, by omega, hS, hO, hU2⟩
                  | some vk =>
                    rw [hsk] at hlk
                    simp only [Option.getD] at hlk
                    obtain ⟨gk9, ck, rfl, hBk, hgk9, hck, hIk⟩ := hM.out.form hsk
                    obtain ⟨_, _, hkne, _⟩ := hM.out.row i _ hsk
                    obtain ⟨nk, hnk⟩ : ∃ nk, nk = (tr i).length := ⟨_, rfl⟩
                    have HU2 : Hid (Outs wl (vs ++ [.slice (some ⟨gk9, 0, none⟩) (tr i).length ck]) (rowk tr (i + 1))) := Lib.hid (by rw [rowk_next tr hi1, if_neg hkne]; exact hU.out.snoc hgk9 hIk)
                    rw [← hnk] at hlk HU2
                    have hown := hO.out.alloc (.cells #[.slice (some ⟨gk9, 0, none⟩) nk ck] 43)
                    have hB2 : wl.heap.size ≤ (wr.alloc (.cells #[.slice (some ⟨gk9, 0, none⟩) nk ck] 43)).heap.size := by simp; omega
                    have Hown := Lib.hid hown
                    have HB2 := Lib.hid hB2
                    clear hsk hIk hkne hnk hck
                    go_wp2_with (at_builtin; refine wpList_append_own _ rfl _ _ 40 rfl wl.heap.size 43 j0 _ 1 24 Try.underlying40 Hj0.out Hy0.out Hy1.out Hy2.out rfl (by decide) _ _ _ rfl hown ⟨wr.heap.size, 0, none⟩ 1 1 [.slice (some ⟨gk9, 0, none⟩) nk ck] rfl rfl (one_newB _ _ _) (by intro u hu; simp at hu; subst hu; rfl) (by unfold maxLen; omega) (by omega) hB2 ?_; intro v8 w8 hown8 hg8 _)
                    have HS8 : Hid (wl.Since wl.heap.size w8) := Lib.hid ((hS.out.alloc hsz0 _).grown hg8 HB2.out (fun k hk => (Hown.out.lt k hk).1))
                    have HO8 : Hid (w8.ownsRow wl.heap.size 43 1 v8 (vs ++ [Value.slice (some ⟨gk9, 0, none⟩) nk ck]).length (vs ++ [Value.slice (some ⟨gk9, 0, none⟩) nk ck])) := Lib.hid (by rw [List.length_append]; exact hown8)
                    clear hown8 hg8 hown hB2
                    go_roundg (m.length - (i + 1))
                    case measure => go_light; omega
                    case rel => go_light; exact ⟨i + 1, _, by omega, by omega, rfl, by go_num, by simp; omega, HS8, HO8, HU2⟩
                · have hte : rowk tr i = SavedM.row m.length tr := by
                    unfold rowk SavedM.row
                    rw [show i - 1 = m.length - 1 by omega]
                  obtain ⟨Ao, co, eo, hmo⟩ := outs_map hU.out hS.out hO.out
                  rw [hte] at eo hmo
                  have HE := Lib.hid eo
                  have HMo := Lib.hid hmo
                  have HSaved := Lib.hid (sv_saved hV.out)
                  have HSW : Hid (w.Since w.heap.size wr) := Lib.hid (HS1.out.trans (since_down (hM.out.since.trans (since_down hS.out hM.out.since.size)) HS1.out.size))
                  clear hte eo hmo
                  go_wp2
                  go_ret2
                  exact ⟨HSW.out, _, Ao, co, by rw [HE.out]; rfl, HSaved.out, HMo.out⟩
end Go.Proofs.Ytlopcegpolpndaa
