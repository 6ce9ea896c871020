/- depot: DepotBits' walk. -/
import Derived.Test.YtgahgdgpncnffaaDoorD11
import Derived.Test.YtgahgdgpncnffaaDoorBitM
import Derived.Test.YtgahgdgpncnffaaDoorPlan
import Derived.Laws.OwnMore
namespace Go.Proofs.YtgahgdgpncnffaaDoor
open Go.RowKit Go.Lib DepM Go.Sort

set_option maxHeartbeats 8000000 in
set_option maxRecDepth 100000 in
theorem bits_any (A : Option Addr) (cap : Nat) (xs : List (ByteArray × Int)) (at0 : Int) (y : UInt8) (w : World) (he : Env w) (h : MvsAt w A xs) (hs : ∀ x ∈ xs, x.1.size ≤ maxLen) (hlx : xs.length ≤ 9223372036854775807) :
    Calls Tryd.prog 4 #[.slice A xs.length cap, .int .i64 at0, .int .u8 (y.toNat : Int)] w fun e w' => e = .returned (.bool true) ∧ w.Since w.heap.size w' := by
  have hmixed : Tryd.prog.follows .mixedOrders = true := layItoa.mixed
  have HE := Lib.hid he
  by_cases h50 : (50 : Int) < (xs.length : Int)
  · clear he h hs
    go_enter Tryd.func4, Tryd.ntmps4
    go_wp2
    go_ret
    exact ⟨rfl, World.Since.refl _ _⟩
  have CJ := Lib.hid (journal_any A cap xs w he h hs (by omega))
  clear he h hs
  go_enter Tryd.func4, Tryd.ntmps4
  go_wp2_with fail
  refine CJ.out.mono ?_
  rintro e w1 ⟨hs1, acc, bv, rfl, hv, ha, hr⟩
  have HS1 := Lib.hid hs1
  have HV := Lib.hid hv
  have hJl : (J acc).length ≤ 100000 := by
    have : (J acc).length ≤ 40 * acc.length := Jf_len (n := 0) hv.all (by omega)
    omega
  obtain ⟨AB, cB, rfl, _⟩ := own_form hr
  obtain ⟨bs, hbs⟩ : ∃ bs, bs = J acc := ⟨_, rfl⟩
  rw [← hbs] at hJl hr ⊢
  obtain ⟨n, hn⟩ : ∃ n, n = bs.length := ⟨_, rfl⟩
  rw [← hn] at hJl ⊢
  have HR1 : Hid (Row w1 w.heap.size (.slice AB n cB) bs) := Lib.hid (by rw [hn]; exact hr)
  have HE1 := Lib.hid (HE.out.since hs1 HE.out.low)
  have CS := Lib.hid (stored_any w1 HE1.out)
  have Hbs := Lib.hid hbs
  have Hn := Lib.hid hn
  clear hs1 hr hv CJ hbs hn
  go_wp2_with fail
  refine CS.out.mono ?_
  rintro e w2 ⟨rfl, hs2⟩
  have HS2 := Lib.hid (HS1.out.trans (since_down hs2 HS1.out.size))
  have HR2 := Lib.hid (HR1.out.since hs2)
  have HE2 := Lib.hid (HE1.out.since hs2 HE1.out.low)
  clear hs2 CS HS1 HR1 HE1
  by_cases h0 : n = 0
  · subst h0
    have CS := Lib.hid (stored_any w2 HE2.out)
    go_wp2_with fail
    refine CS.out.mono ?_
    rintro e w3 ⟨rfl, hs3⟩
    have HS3 := Lib.hid (HS2.out.trans (since_down hs3 HS2.out.size))
    clear hs3
    go_wp2
    go_ret
    exact ⟨rfl, HS3.out⟩
  have hp := pickF_bd at0 (n : Int) (by omega)
  obtain ⟨k, hk⟩ : ∃ k : Nat, (k : Int) = pickF at0 (n : Int) := ⟨(pickF at0 (n : Int)).toNat, by omega⟩
  have CP := Lib.hid (fun W => pick_any at0 (n : Int) W (by omega) (by omega))
  rw [← hk] at CP hp
  have hkn : k < n := by omega
  have hkz : (k : Int) < (n : Int) := by omega
  have hkb : k < bs.length := by have := Hn.out; omega
  obtain ⟨g, rfl, -, hnc, hg, -⟩ := HR2.out.byte hkb
  have hcell : ∀ i (hi : i < bs.length), w2.cell? ⟨g, i, none⟩ = some (.int .u8 (bs[i].toNat : Int)) := fun i hi => by
    obtain ⟨g', h1, _, _, _, h2⟩ := HR2.out.byte hi
    injection h1 with h1
    injection h1 with h1
    subst h1
    exact h2 w2 (World.Since.refl _ _)
  have c0 := hcell k hkb
  have Hcell := Lib.hid hcell
  have hn0 : ((n : Int) == 0) = false := by rw [beq_eq_false_iff_ne]; omega
  clear hcell hk hp
  obtain ⟨a1, m, a2, u, x, v, hsp⟩ := spot_of (acc := acc) (k := k) (by rw [← Hbs.out]; exact hkb)
  have hx : bs[k] = x := by
    have h1 := hsp.at
    rw [← Hbs.out, List.getElem?_eq_getElem hkb] at h1
    injection h1
  rw [hx] at c0
  by_cases hxy : x = y
  · subst hxy
    go_wp2_with fail
    refine (CP.out _).mono ?_
    rintro e w3 ⟨rfl, rfl⟩
    go_wp2
    go_ret
    exact ⟨rfl, HS2.out⟩
  have hne : ((x.toNat : Int) == (y.toNat : Int)) = false := by
    rw [beq_eq_false_iff_ne]
    intro e
    exact hxy (UInt8.toNat_inj.1 (by omega))
  obtain ⟨p, hp⟩ : ∃ p, p = (J a1).length := ⟨_, rfl⟩
  have hpk : p ≤ k := by have := hsp.pos; omega
  have Hp := Lib.hid hp
  have Hsp := Lib.hid hsp
  have Hxy := Lib.hid hxy
  clear hsp hx hxy hp
  go_wp2_with fail
  refine (CP.out _).mono ?_
  rintro e w3 ⟨rfl, rfl⟩
  go_wp2
  go_loopg [9] (k + 1) (fun gh iv wr => ∃ j : Nat, p ≤ j ∧ j ≤ k ∧ gh = j + 1 ∧ iv = .int .i64 (j : Int) ∧ w2 = wr)
  case atStart => exact ⟨k, hpk, Nat.le_refl _, rfl, rfl, rfl⟩
  case round =>
    obtain ⟨j, hpj, hjk, rfl, rfl, rfl⟩ := hrel
    by_cases hlt : p < j
    · obtain ⟨j', rfl⟩ : ∃ j', j = j' + 1 := ⟨j - 1, by omega⟩
      obtain ⟨b, hb1, hb2⟩ := Hsp.out.inside HV.out (j := j' + 1) (by have := Hp.out; omega) hjk
      rw [Nat.add_sub_cancel, ← Hbs.out] at hb1
      have hjb : j' < bs.length := (List.getElem?_eq_some_iff.1 hb1).1
      have c1 := Hcell.out j' hjb
      rw [List.getElem?_eq_getElem hjb] at hb1
      injection hb1 with hb1
      rw [hb1] at c1
      have hb3 : ((b.toNat : Int) == 10) = false := by
        rw [beq_eq_false_iff_ne]
        intro e
        exact hb2 (UInt8.toNat_inj.1 (by have : (10 : UInt8).toNat = 10 := rfl; omega))
      have hj1 : (j' : Int) < (n : Int) := by omega
      have hj2 : (0 : Int) < (j' : Int) + 1 := by omega
      clear hb1 hb2
      go_wp2
      go_roundg (j' + 1)
      case measure => go_light; omega
      case rel => go_light; exact ⟨j', by omega, by omega, rfl, by go_num, rfl⟩
    · obtain rfl : p = j := by omega
      have hcellp : ∀ p', p = p' + 1 → w2.cell? ⟨g, p', none⟩ = some (.int .u8 10) := fun p' hp' => by
        have hb1 := Hsp.out.edge (by rw [← Hp.out]; omega)
        rw [← Hp.out, ← Hbs.out, hp', Nat.add_sub_cancel] at hb1
        have hjb : p' < bs.length := (List.getElem?_eq_some_iff.1 hb1).1
        have c1 := Hcell.out p' hjb
        rw [List.getElem?_eq_getElem hjb] at hb1
        injection hb1 with hb1
        rw [hb1] at c1
        exact c1
      obtain ⟨i0, hi0, hz0, hz1, hz2⟩ := info_parts info_u8
      have Hi0 := Lib.hid hi0
      have Hz0 := Lib.hid hz0
      have Hz1 := Lib.hid hz1
      have Hz2 := Lib.hid hz2
      have HBb : Hid (BAt w2 g 0 bs) := Lib.hid (fun i hi => by rw [Nat.zero_add]; exact Hcell.out i hi)
      have Hcp := Lib.hid hcellp
      have Hg := Lib.hid hg
      clear hi0 hz0 hz1 hz2 hcellp Hcell c0 hg hne
      by_cases hp0 : p = 0
      case' pos =>
        have hd0 : decide (0 < p) = false := by rw [decide_eq_false_iff_not]; omega
        clear hp0
        go_upto_region 12 with fail
        clear hd0
      case' neg =>
        obtain ⟨p', hp'⟩ : ∃ p', p = p' + 1 := ⟨p - 1, by omega⟩
        have c1 := Hcp.out p' hp'
        have hj1 : (p' : Int) < (n : Int) := by omega
        have hj2 : 0 < p := by omega
        have hpp : (p : Int) - 1 = (p' : Int) := by omega
        clear hp' hp0
        go_upto_region 12 with fail
        clear c1 hj1 hj2 hpp
      all_goals
        have Hnn := Lib.hid hn0
        clear hlt hn0
        go_wp2_with (at_builtin; refine wpList_append_own _ rfl _ _ 23 rfl w2.heap.size 5 i0 (.int .u8 0) 1 1 Tryd.underlying23 Hi0.out Hz0.out Hz1.out Hz2.out rfl (by decide) _ _ _ rfl (World.ownsRow_made w2 #[] 0 (Nat.le_refl _) (Nat.zero_le _) rfl) ⟨g, 0, none⟩ n cB ((nums bs).map (Value.int .u8)) rfl ?qc1 ?qc2 ?qc3 ?qc4 ?qc5 ?qc6 ?_)
        case qc1 => simp [nums, Hn.out]
        case qc2 =>
          intro j u hj
          have hjn : j < bs.length := by
            have := (List.getElem?_eq_some_iff.1 hj).1
            simpa [nums] using this
          have e : (⟨g, 0, none⟩ : Addr).add j = ⟨g, 0 + j, none⟩ := by
            unfold Addr.add
            split
            · rename_i h0; subst h0; rfl
            · rfl
          rw [e]
          refine Lib.cell?_alloc_some _ ?_
          rw [HBb.out j hjn, ← hj]
          simp [nums, hjn]
        case qc3 => intro u hu; obtain ⟨x, _, rfl⟩ := List.mem_map.1 hu; rfl
        case qc4 => unfold maxLen; omega
        case qc5 => omega
        case qc6 => simp
        intro v' w9 hown hgrow hnil
        have hb9 : Below w2.heap.size w2 w9 := ((Below.refl _ w2).alloc (Nat.le_refl _) _).grown hgrow (by simp) (by intro k hk; simp [Value.ownBlock] at hk; omega)
        have hs9 := since_of_below hb9
        have e1 : (nums bs).map (Value.int .u8) = strCells (strB bs) := by simp [nums, strCells, strB]
        rw [e1] at hown
        rcases hown.2 with ⟨hx, _⟩ | ⟨g9, c9, cur, rfl, hB9, _, hn9, _⟩
        · exact absurd hx hnil
        have HR9 : Hid (Row w9 w2.heap.size (.slice (some ⟨g9, 0, none⟩) n c9) bs) := Lib.hid (by
          have := hown
          rw [Hn.out] at this ⊢
          exact this)
        have c9k : w9.cell? ⟨g9, k, none⟩ = some (.int .u8 (bs[k].toNat : Int)) := by
          obtain ⟨g', h1, _, _, _, h2⟩ := HR9.out.byte hkb
          injection h1 with h1
          injection h1 with h1
          subst h1
          exact h2 w9 (World.Since.refl _ _)
        have f9k : w9.frozen? ⟨g9, k, none⟩ = false := World.ownsRow.frozenAt hown k
        have hst := World.ownsRow.stored hown k (.int .u8 (y.toNat : Int))
        have HS9 := Lib.hid hs9
        have HB9 := Lib.hid hB9
        have HR10 : Hid (Row (w9.setCell ⟨g9, k, none⟩ (.int .u8 (y.toNat : Int))) w2.heap.size (.slice (some ⟨g9, 0, none⟩) n c9) (bs.set k y)) := Lib.hid (by
          have h1 := hst.1
          have e2 : (strCells (strB bs)).set k (.int .u8 (y.toNat : Int)) = strCells (strB (bs.set k y)) := by simp [strCells, strB, List.map_set]
          rw [e2] at h1
          have e3 : (bs.set k y).length = n := by rw [List.length_set, Hn.out]
          show World.ownsRow _ _ _ _ _ _ _
          rw [e3]
          exact h1)
        have HS10 : Hid (w2.Since w2.heap.size (w9.setCell ⟨g9, k, none⟩ (.int .u8 (y.toNat : Int)))) := Lib.hid (hs9.setCell hB9 _)
        generalize (bs[k].toNat : Int) = ov at c9k
        clear hb9 hs9 e1 hown hgrow hnil hst
        go_upto_region 14 with fail
        clear c9k f9k hB9 HB9 HS9 HR9
        generalize w9.setCell ⟨g9, k, none⟩ (.int .u8 (y.toNat : Int)) = w10 at *
        have CO := Lib.hid (Open_any (HE2.out.since HS10.out HE2.out.low) HR10.out (by rw [List.length_set]; have := Hn.out; omega))
        go_wp2_with fail
        refine CO.out.mono ?_
        rintro e w11 ⟨hs11, db, acc', mv, jv, r, rfl, hd, hO⟩
        rw [Hbs.out, Hsp.out.set y] at hO
        have hVa := HV.out
        rw [Hsp.out.eq] at hVa
        obtain rfl : acc' = a1 := turned hVa Hsp.out.line (fun e => Hxy.out e.symm) hO
        rw [← Hp.out]
        have HS11 := Lib.hid (HS10.out.trans (since_down hs11 HS10.out.size))
        have HR11 := Lib.hid (HR2.out.since HS11.out)
        obtain ⟨sv2, hsl2, hcv2, _⟩ := HR11.out.cut (by have := Hn.out; omega) (show p ≤ bs.length by have := Hn.out; omega)
        have htk : bs.take p = J acc' := by rw [Hbs.out, Hp.out]; exact Hsp.out.start
        rw [htk] at hcv2
        obtain ⟨sj, hsj⟩ : ∃ sj, sj = strB (J acc') := ⟨_, rfl⟩
        rw [← hsj] at hcv2
        have CJ2 : Hid (∀ W, w11.Since w11.heap.size W → Calls Tryd.prog 9 #[.pointer (some ⟨db, 0, none⟩)] W fun e w' => ∃ v, e = .returned v ∧ (convert 23 9 v).run Tryd.prog w' = .ok (.string sj) w' ∧ W.Since W.heap.size w') := Lib.hid (fun W hW => (Journal_any (hd.since hW) (by rw [← Hp.out]; omega)).mono (fun e w' ⟨v, h1, h2, h3⟩ => ⟨v, h1, by rw [hsj]; exact h2.conv, h3⟩))
        have HCV2 := Lib.hid hcv2
        have HSt := Lib.hid (HS2.out.trans (since_down HS11.out HS2.out.size))
        clear hsj hcv2 htk hVa hO hd hs11 CO HR10 HS10
        go_upto_region 15 with fail
        have hbeq : (sj.toList == sj.toList) = true := by simp
        have g3 : ∀ q : Lat w11, (convert 23 9 sv2).run Tryd.prog q.v = .ok (.string sj) q.v := fun q => HCV2.out q.v q.h
        refine wp_region_planned (S := fun w' => ∃ q : Lat w11, w' = q.v) [(true, 0), (true, 1), (true, 2), (true, 3), (true, 4), (true, 5), (true, 6), (true, 7), (true, 8), (true, 11), (true, 12), (true, 13), (true, 14), (false, 9), (false, 10), (false, 15), (false, 16), (false, 17)] (by assumption) (by kernel_rfl) (fun _ _ d _ _ h => by cases d <;> exact h) ⟨⟨w11.drew, since_drewN'' w11 1⟩, rfl⟩ ?_
        iterate 13 (refine plan_take' rfl (fun K hK => ?_); go_simp; refine hK _ ?_; clear hK K)
        refine plan_next' rfl (fun K hK => ?_)
        go_simp
        refine (CJ2.out _ (since_drewN'' w11 1)).mono ?_
        rintro e w7 ⟨vj, rfl, hcj, hs7⟩
        have HS7 : Hid (w11.Since w11.heap.size w7) := Lib.hid (since_join (since_drewN'' w11 1) hs7)
        refine hK _ _ ⟨⟨w7, HS7.out⟩, rfl⟩ ?_
        clear hK K hs7
        iterate 4 (refine plan_next' rfl (fun K hK => ?_); go_simp; refine hK _ _ ⟨⟨w7, HS7.out⟩, rfl⟩ ?_; clear hK K)
        refine plan_end ?_
        have HS8 := Lib.hid (HSt.out.trans (since_down HS7.out HSt.out.size))
        clear hcj CJ2 HCV2 HS7 hsl2 g3
        go_wp2
        go_ret
        exact ⟨rfl, HS8.out⟩
end Go.Proofs.YtgahgdgpncnffaaDoor
