/- TripSaved's walk: whatever comes, true; nothing that was there turns. -/
import Derived.Test.YtlopcegpolpndaaS14
namespace Go.Proofs.Ytlopcegpolpndaa
open Go.RowKit PermM TripM SavedM

set_option maxHeartbeats 16000000 in
set_option maxRecDepth 100000 in
theorem saved_any {A C : Option Addr} {cap capw : Nat} {m : List (List Int)} {ws : List Int} {room : Int} {w : World} (h : MapAt w A m) (hlen : m.length ≤ 8796093022208) (hrl : ∀ r ∈ m, r.length ≤ 9223372036854775807) (hW : IntsAt w C ws) (hlw : ws.length ≤ 9223372036854775807)
    (hwb : ∀ i, -9223372036854775808 ≤ wF ws i ∧ wF ws i ≤ 9223372036854775807) :
    Calls Try.prog 5 #[.slice A m.length cap, .slice C ws.length capw, .int .i64 room] w (TruePost w) := by
  have HM := Lib.hid h
  have HWs := Lib.hid hW
  have HRL := Lib.hid hrl
  have HWB := Lib.hid hwb
  clear h hW hrl hwb
  go_enter Try.func5, Try.ntmps5
  go_wp2_with fail
  refine (numbers_any HM.out (by omega) HRL.out).mono ?_
  rintro e w0 ⟨rfl, r, rfl, _⟩
  by_cases hr90 : 90 < r
  · go_wp2
    go_ret
    exact ⟨rfl, World.Since.refl _ _⟩
  have hr90' : r ≤ 90 := by omega
  clear hr90
  by_cases t : SvOk m ws room
  case neg =>
    have C1 := Lib.hid (Savings_bad (cap := cap) (capw := capw) HM.out HWs.out (by omega) HRL.out hlw HWB.out t)
    clear t
    go_wp2_with fail
    refine C1.out.mono ?_
    rintro e w1 ⟨hs1, k, rfl⟩
    go_wp2_with fail
    refine (around_any _).mono ?_
    rintro e w3 ⟨rfl, hs3⟩
    go_wp2_with fail
    refine (around_any _).mono ?_
    rintro e w4 ⟨rfl, hs4⟩
    go_wp2
    go_ret
    exact ⟨rfl, since_join (since_join hs1 hs3) hs4⟩
  have h0 : ∀ i, 0 ≤ wF ws i ∧ wF ws i ≤ 1000000000 := fun i => by
    by_cases hi : i < ws.length
    · exact t.ok i hi
    · rw [wF_out (by omega)]; omega
  have C1 := Lib.hid (Savings_ok (cap := cap) (capw := capw) (room := room) HM.out t.map HWs.out t.len h0 (fun i h1 h2 => t.room i h1 (by rw [t.len]; exact h2)))
  have HT := Lib.hid t.map
  have HL := Lib.hid t.len
  have hfew := t.map.few
  have hlb : ws.length ≤ 9 := by rw [t.len]; exact hfew
  have H0 := Lib.hid h0
  clear t h0
  go_wp2_with fail
  refine C1.out.mono ?_
  rintro e w1 ⟨hs1, ts, A1, c1, rfl, hSd, hMt⟩
  clear C1
  go_wp2_with fail
  refine (around_any _).mono ?_
  rintro e w2 ⟨rfl, hs2⟩
  have HS2 := Lib.hid (since_join hs1 hs2)
  have HMT := Lib.hid (hMt.since hs2)
  have HSD := Lib.hid hSd
  have hts := hSd.few
  clear hs1 hs2 hSd hMt
  have hmk := run_make_row' (P := Try.prog) 23 3 (.int .i64 0) 8 Try.underlying23 info_int rfl .i64 .i64 m.length (by omega) (by omega)
  obtain ⟨sb, hsb⟩ : ∃ sb, sb = w2.heap.size := ⟨_, rfl⟩
  have hs3 : w2.Since sb (w2.alloc (.cells (madeCells #[.int .i64 0] m.length) 3)) := by rw [hsb]; exact (World.Since.refl _ _).alloc (Nat.le_refl _) _
  have hr3 : (w2.alloc (.cells (madeCells #[.int .i64 0] m.length) 3)).rowIs sb 3 m.length (fun x => .int .i64 (seenF ts 0 0 x)) := by
    rw [hsb]
    refine (World.rowIs_made w2 (.int .i64 0) m.length 3).congr (fun i _ => ?_)
    simp [seenF, lsum]
  have HS3 := Lib.hid hs3
  have HR3 := Lib.hid hr3
  have HM2 := Lib.hid (HM.out.since HS2.out)
  have HW2 := Lib.hid (HWs.out.since (Nat.le_refl _) HS2.out)
  have HSB := Lib.hid hsb
  go_upto_region 7 with fail
  rw [← hsb]
  clear hs3 hr3 hsb hmk
  generalize w2.alloc (.cells (madeCells #[.int .i64 0] m.length) 3) = w3 at *
  go_wp2
  go_loopg [10, 11, 12] ts.length (fun gh ev sv iv wr => ∃ (i : Nat) (E S : Int), i ≤ ts.length ∧ gh = ts.length - i ∧ iv = .int .i64 (i : Int) ∧ ev = .int .i64 E ∧ sv = .int .i64 S ∧ 0 ≤ E ∧ E ≤ 20000000000 * (i : Int) ∧ 0 ≤ S ∧ S ≤ 20000000000 * (i : Int) ∧
    Hid (E = lsum (fun t => longOf (dOf m) (0 :: t)) (ts.take i)) ∧ Hid (S = lsum (star (dOf m)) (ts.take i)) ∧ Hid (w2.Since sb wr) ∧ Hid (wr.rowIs sb 3 m.length (fun x => .int .i64 (seenF ts i 0 x))))
  case atStart => exact ⟨0, 0, 0, Nat.zero_le _, rfl, rfl, rfl, rfl, by omega, by omega, by omega, by omega, Lib.hid (by simp [lsum]), Lib.hid (by simp [lsum]), HS3, HR3⟩
  case round =>
    clear HS3 HR3
    obtain ⟨i, E, S, hi, rfl, rfl, rfl, rfl, hE0, hE1, hS0, hS1, hE, hS, hS3, hR3⟩ := hrel
    have hsz3 := hR3.out.lt
    by_cases hil : i < ts.length
    · have hiz : (i : Int) < (ts.length : Int) := by omega
      obtain ⟨t, ht⟩ : ∃ t, ts[i]? = some t := ⟨ts[i], List.getElem?_eq_getElem hil⟩
      have htm := List.mem_of_getElem? ht
      have htn := HSD.out.some t htm
      have htl := saved_len HSD.out htm
      have hMT := HMT.out.since (by have := hS3.out; rw [HSB.out] at this; exact this)
      obtain ⟨ba, oa, rfl, hba, hrow⟩ := hMT i (by simp; exact hil)
      obtain ⟨A', c', d0, hI⟩ := hrow i (natsZ t) (by rw [List.getElem?_map, ht]; rfl)
      rw [natsZ_len] at d0
      have hl0 : 0 < t.length := List.length_pos_iff.2 htn
      obtain ⟨bt, ot, rfl, hbt, hct⟩ := hI 0 (by rw [natsZ_len]; exact hl0)
      have Ht := Lib.hid ht
      have Htm := Lib.hid htm
      have hnews : ∀ (j : Nat) (u : Value), (natsV3 t)[j]? = some u → (wr.alloc (.cells #[.int .i64 0] 3)).cell? ((⟨bt, ot, none⟩ : Addr).add j) = some u := fun j u hu => by
        rw [add_plain, World.cell?_of_block (w := wr) (a := ⟨bt, ot + j, none⟩) (((World.Since.refl wr.heap.size wr).alloc (Nat.le_refl _) _).block bt hbt)]
        unfold natsV3 at hu
        rw [List.getElem?_map, Option.map_eq_some_iff] at hu
        obtain ⟨p, hp, rfl⟩ := hu
        exact hct j (p : Int) (by unfold natsZ; rw [List.getElem?_map, hp]; rfl)
      have Hnews := Lib.hid hnews
      have Hlen : Hid ((natsV3 t).length = t.length * 1) := Lib.hid (by simp [natsV3])
      have Hone : Hid (∀ u ∈ natsV3 t, u.oneCell' = true) := Lib.hid (fun u hu => by
        obtain ⟨a, _, rfl⟩ := List.mem_map.1 hu
        rfl)
      have hown : (wr.alloc (.cells #[.int .i64 0] 3)).ownsRow (sb + 1) 3 1 (.slice (some ⟨wr.heap.size, 0, none⟩) 1 1) 1 [Value.int .i64 0] :=
        ⟨rfl, .inr ⟨wr.heap.size, 1, #[.int .i64 0], rfl, hsz3, heap_alloc_new wr _, Nat.le_refl _, by unfold maxLen; omega, rfl, rfl⟩⟩
      obtain ⟨j0, hj0, hy0, hy1, hy2⟩ := info_parts info_intO
      have Hj0 := Lib.hid hj0
      have Hy0 := Lib.hid hy0
      have Hy1 := Lib.hid hy1
      have Hy2 := Lib.hid hy2
      clear ht htm htn hMT hrow hI hct hnews hj0 hy0 hy1 hy2
      go_wp2_with (at_builtin; refine wpList_append_lies _ rfl _ _ 23 rfl (sb + 1) 3 j0 _ 1 8 Try.underlying23 Hj0.out Hy0.out Hy1.out Hy2.out rfl (by decide) (.slice (some ⟨wr.heap.size, 0, none⟩) 1 1) 1 [Value.int .i64 0] rfl hown ⟨bt, ot, none⟩ t.length c' (natsV3 t) rfl Hlen.out Hnews.out Hone.out hl0 (by unfold maxLen; omega) (by omega) (by simp; omega) _ rfl ?_; intro gA cA wA h1 h2 h3 h4; have HoA := Lib.hid h1; have HgA := Lib.hid h2; clear h1 h2 h3 h4)
      have HSA : Hid (w2.Since sb wA) := Lib.hid ((hS3.out.alloc (by omega) _).grown HgA.out (by simp; omega) (fun k hk => by simp [Value.ownBlock] at hk; omega))
      have HRA : Hid (wA.rowIs sb 3 m.length (fun x => .int .i64 (seenF ts i 0 x))) := Lib.hid (hR3.out.of_block (by
        rw [HgA.out.block sb (by simp; omega) (by simp [Value.ownBlock]; omega)]
        exact ((World.Since.refl wr.heap.size wr).alloc (Nat.le_refl _) _).block sb hsz3))
      have HOA : Hid (wA.ownsRow (sb + 1) 3 1 (.slice (some ⟨gA, 0, none⟩) (1 + t.length) cA) (1 + t.length) (natsV3 (0 :: t))) := HoA
      clear HoA HgA hown Hnews d0 hR3 hS3 hba hbt hsz3
      generalize hwl : wr.heap.size = wl at *
      clear hwl
      go_loopg [11, 13, 15] t.length (fun gh sv lv kv wq => ∃ (j : Nat) (S' L : Int), j ≤ t.length ∧ gh = t.length - j ∧ kv = .int .i64 ((j : Int) + 1) ∧ sv = .int .i64 S' ∧ lv = .int .i64 L ∧ 0 ≤ S' ∧ S' ≤ 20000000000 * (i : Int) + 2000000000 * (j : Int) ∧ 0 ≤ L ∧ L ≤ 1000000000 * (j : Int) ∧
        Hid (S' = S + star (dOf m) (t.take j)) ∧ Hid (L = SavedM.load (wF ws) (t.take j)) ∧ Hid (w2.Since sb wq) ∧ Hid (wq.rowIs sb 3 m.length (fun x => .int .i64 (seenF ts i j x))) ∧ Hid (wq.ownsRow (sb + 1) 3 1 (.slice (some ⟨gA, 0, none⟩) (1 + t.length) cA) (1 + t.length) (natsV3 (0 :: t))))
      case atStart => exact ⟨0, S, 0, Nat.zero_le _, rfl, rfl, rfl, rfl, hS0, by omega, by omega, by omega, Lib.hid (by simp [star]), Lib.hid (by simp [SavedM.load]), HSA, HRA, HOA⟩
      case round =>
        clear HSA HRA HOA
        obtain ⟨j, S', L, hj, rfl, rfl, rfl, rfl, hS0', hS1', hL0, hL1, hS', hL, hS3, hR3, hO⟩ := hrel
        by_cases hjl : j < t.length
        · have hjz : (j : Int) < (t.length : Int) := by omega
          obtain ⟨p, hp⟩ : ∃ p, t[j]? = some p := ⟨t[j], List.getElem?_eq_getElem hjl⟩
          obtain ⟨hp1, hpn⟩ := HSD.out.mem t Htm.out p (List.mem_of_getElem? hp)
          have hp1z : (1 : Int) ≤ (p : Int) := by omega
          have hpnz : (p : Int) < (m.length : Int) := by omega
          obtain ⟨g', c'', e', hBg, hgl, _, _, hcells, _⟩ := own_at hO.out (by omega)
          injection e' with e1 _ e3
          injection e1 with e1
          injection e1 with e1 _ _
          subst e1 e3
          have x1 := hcells (j + 1) (.int .i64 (p : Int)) (by unfold natsV3; rw [List.getElem?_map, List.getElem?_cons_succ, hp]; rfl)
          have x2 := hR3.out.cell (i := p) hpn
          have xf := hR3.out.frozen p
          have hcb := seenF_bd (ts := ts) (by omega) (fun u hu => by have := saved_len HSD.out hu; omega) i j p
          obtain ⟨cv, hcv⟩ : ∃ cv, cv = seenF ts i j p := ⟨_, rfl⟩
          rw [← hcv] at x2 hcb
          have Hcv := Lib.hid hcv
          have HP := Lib.hid hp
          have HBg := Lib.hid hBg
          clear hcells hcv hp hBg
          obtain ⟨cb0, cb1⟩ := hcb
          go_upto_region 19 with fail
          have hS4 : Hid (w2.Since sb (wr.setCell ⟨sb, p, none⟩ (.int .i64 (cv + 1)))) := Lib.hid (hS3.out.setCell (Nat.le_refl _) _)
          have hR4 : Hid ((wr.setCell ⟨sb, p, none⟩ (.int .i64 (cv + 1))).rowIs sb 3 m.length (fun x => .int .i64 (seenF ts i (j + 1) x))) := Lib.hid ((hR3.out.set p (.int .i64 (cv + 1))).congr (fun x hx => by
            rw [seenF_next Ht.out HP.out x]
            by_cases e : x = p
            · subst e; rw [if_pos rfl, if_pos rfl, ← Hcv.out]
            · rw [if_neg e, if_neg (fun h => e h.symm), Int.add_zero]))
          have hO4 : Hid ((wr.setCell ⟨sb, p, none⟩ (.int .i64 (cv + 1))).ownsRow (sb + 1) 3 1 (.slice (some ⟨gA, 0, none⟩) (1 + t.length) cA) (1 + t.length) (natsV3 (0 :: t))) := Lib.hid (own_setOther hO.out (by have := HBg.out; simp [Value.ownBlock]; omega) _)
          have x1' : (wr.setCell ⟨sb, p, none⟩ (.int .i64 (cv + 1))).cell? ⟨gA, j + 1, none⟩ = some (.int .i64 (p : Int)) := by
            rw [World.cell?_setCell_other _ _ _ _ (by have := HBg.out; intro e; injection e; omega)]; exact x1
          clear x1 x2 xf hO hR3 hS3 hgl
          generalize wr.setCell ⟨sb, p, none⟩ (.int .i64 (cv + 1)) = w4 at *
          obtain ⟨b2, off2, rfl, _, hc2⟩ := (HW2.out.since (by rw [HSB.out]; exact Nat.le_refl _) hS4.out) p (by rw [HL.out]; exact hpn)
          have d1 := hc2 p (wF ws p) (by unfold wF; rw [List.getD_eq_getElem?_getD, List.getElem?_eq_getElem (by rw [HL.out]; exact hpn)]; rfl)
          have hq := H0.out p
          obtain ⟨q, hqq⟩ : ∃ q, q = wF ws p := ⟨_, rfl⟩
          rw [← hqq] at d1 hq
          have Hqq := Lib.hid hqq
          have hpw : (p : Int) < (ws.length : Int) := by rw [HL.out]; exact hpnz
          clear hc2 hqq
          obtain ⟨q0, q1⟩ := hq
          have hmp := HM2.out.since (by have := hS4.out; rw [HSB.out] at this; exact this)
          obtain ⟨bm, om, A1, c1', rfl, _, d2, r1⟩ := HT.out.at_ hmp hpn
          obtain ⟨bm', om', A0, c0', e0, _, d3, r0⟩ := HT.out.at_ hmp (i := 0) (by omega)
          cases e0
          obtain ⟨b1, o1, rfl, _, g1⟩ := r1 0 (by omega)
          obtain ⟨b0, o0, rfl, _, g3⟩ := r0 p hpn
          clear r0 r1 hmp
          rw [Nat.add_zero] at d3 g1
          have b1' := dOf_bd HT.out p 0
          have b2' := dOf_bd HT.out 0 p
          obtain ⟨x, hx⟩ : ∃ x, x = dOf m p 0 := ⟨_, rfl⟩
          obtain ⟨y, hy⟩ : ∃ y, y = dOf m 0 p := ⟨_, rfl⟩
          rw [← hx] at b1' g1
          rw [← hy] at b2' g3
          have HX := Lib.hid hx
          have HY := Lib.hid hy
          clear hx hy
          obtain ⟨u0, u1⟩ := b1'
          obtain ⟨v0, v1⟩ := b2'
          go_wp2
          go_quiet (fail)
          go_wp2
          have hS5 : Hid (w2.Since sb (w4.drewN nq)) := Lib.hid (since_drewN hS4.out nq)
          go_roundg (t.length - (j + 1))
          case measure => go_light; omega
          case rel =>
            go_light
            refine ⟨j + 1, S' + (y + x), L + q, by omega, rfl, by go_num, rfl, rfl, by omega, by omega, by omega, by omega, Lib.hid ?_, Lib.hid ?_, hS5, hR4, hO4⟩
            · rw [star_take HP.out, ← HX.out, ← HY.out, hS'.out]; omega
            · rw [load_take HP.out, ← Hqq.out, hL.out]
        · obtain rfl : t.length = j := by omega
          have hR5 : Hid (wr.rowIs sb 3 m.length (fun x => .int .i64 (seenF ts (i + 1) 0 x))) := Lib.hid (hR3.out.congr (fun x _ => by rw [seenF_done Ht.out]))
          have e1 : (0 :: t).length = 1 + t.length := by simp; omega
          have hIw : IntsAt wr (some ⟨gA, 0, none⟩) (ints (0 :: t)) := ints_natsV3 (B := sb + 1) (c := cA) (by rw [e1]; exact hO.out)
          have hm0 : 0 < m.length := by
            obtain ⟨p, hp⟩ : ∃ p, t[0]? = some p := ⟨t[0], List.getElem?_eq_getElem hl0⟩
            have := (HSD.out.mem t Htm.out p (List.mem_of_getElem? hp)).2
            omega
          have C4 := Long_ok (cap := cap) (cap2 := cA) (HM2.out.since (by have := hS3.out; rw [HSB.out] at this; exact this)) HT.out hIw (fun x hx => by
            rcases List.mem_cons.1 hx with rfl | hx
            · exact hm0
            · exact (HSD.out.mem t Htm.out x hx).2) (by rw [e1]; omega)
          rw [e1] at C4
          have hlb2 := long_bd (fun a b => dOf_bd HT.out a b) (0 :: t)
          rw [e1] at hlb2
          obtain ⟨ln, hln⟩ : ∃ ln, ln = longOf (dOf m) (0 :: t) := ⟨_, rfl⟩
          rw [← hln] at C4 hlb2
          have Hln := Lib.hid hln
          have HC4 := Lib.hid C4
          have hroom := HSD.out.load t Htm.out
          have hLl := hL.out
          rw [List.take_length] at hLl
          rw [← hLl] at hroom
          have hw2 : (2 : Int) ≤ (((1 + t.length : Nat)) : Int) := by omega
          have hSs := hS'.out
          rw [List.take_length] at hSs
          have HSs := Lib.hid hSs
          obtain ⟨l0, l1⟩ := hlb2
          clear C4 e1 hIw hLl hSs hln hL hS' hR3 hO
          go_wp2_with fail
          refine HC4.out.mono ?_
          rintro e w6 ⟨hs6, rfl⟩
          have HS6 : Hid (w2.Since sb w6) := Lib.hid (hS3.out.trans (since_down hs6 (by have := hS3.out.size; rw [HSB.out]; exact this)))
          have HR6 : Hid (w6.rowIs sb 3 m.length (fun x => .int .i64 (seenF ts (i + 1) 0 x))) := Lib.hid (hR5.out.of_block (hs6.block sb hR5.out.lt))
          clear hs6 HC4 hR5 hS3
          go_wp2
          go_roundg (ts.length - (i + 1))
          case measure => go_light; omega
          case rel =>
            go_light
            refine ⟨i + 1, E + ln, S', by omega, rfl, by go_num, rfl, rfl, by omega, by omega, by omega, by omega, Lib.hid ?_, Lib.hid ?_, HS6, HR6⟩
            · rw [lsum_take _ Ht.out, ← Hln.out, ← hE.out]
            · rw [lsum_take _ Ht.out, ← hS.out]; exact HSs.out
    · obtain rfl : ts.length = i := by omega
      have h1 := HSD.out.sum
      have h2 := hE.out
      have h3 := hS.out
      rw [List.take_length] at h2 h3
      rw [← h2, ← h3] at h1
      have hseen : Hid (∀ x, 1 ≤ x → x < m.length → seenF ts ts.length 0 x = 1) := Lib.hid (fun x a1 a2 => by
        unfold seenF
        rw [List.take_length, List.take_zero, HSD.out.once x a1 a2]
        rfl)
      clear h2 h3 hE hS
      go_wp2
      go_loopg [18] (m.length - 1) (fun gh iv wq => ∃ k : Nat, 1 ≤ k ∧ (k ≤ m.length ∨ k ≤ 1) ∧ gh = m.length - k ∧ iv = .int .i64 (k : Int) ∧ wr = wq)
      case atStart => exact ⟨1, by omega, by omega, rfl, rfl, rfl⟩
      case round =>
        obtain ⟨k, hk1, hkn, rfl, rfl, rfl⟩ := hrel
        by_cases hkm : k < m.length
        · have hkz : (k : Int) < (m.length : Int) := by omega
          have x1 := hR3.out.cell (i := k) hkm
          simp only [hseen.out k hk1 hkm] at x1
          go_wp2
          go_roundg (m.length - (k + 1))
          case measure => go_light; omega
          case rel => go_light; exact ⟨k + 1, by omega, by omega, rfl, by go_num, rfl⟩
        · have hkz : (m.length : Int) ≤ (k : Int) := by omega
          have hdec : decide (E ≤ S) = true := by rw [decide_eq_true_iff]; exact h1
          have HSW : Hid (w.Since w.heap.size wr) := Lib.hid (since_join HS2.out (by have := hS3.out; rw [HSB.out] at this; exact this))
          go_wp2
          go_ret
          exact ⟨rfl, HSW.out⟩
end Go.Proofs.Ytlopcegpolpndaa
