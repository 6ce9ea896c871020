/- depot: DepotCrashes' walk. -/
import Derived.Test.YtgahgdgpncnffaaDoorD10
import Derived.Test.YtgahgdgpncnffaaDoorPlan
namespace Go.Proofs.YtgahgdgpncnffaaDoor
open Go.RowKit Go.Lib DepM Go.Sort

theorem toL (l l' : Bs) : ((strB l).toList == (strB l').toList) = decide (l = l') := by
  rw [Lib.toList_data, Lib.toList_data]
  show (l == l') = _
  by_cases h : l = l'
  · subst h; simp
  · rw [decide_eq_false h, beq_eq_false_iff_ne]; exact h
set_option maxHeartbeats 8000000 in
set_option maxRecDepth 100000 in
theorem crashes_any (A : Option Addr) (cap : Nat) (xs : List (ByteArray × Int)) (cut : Int) (w : World) (he : Env w) (h : MvsAt w A xs) (hs : ∀ x ∈ xs, x.1.size ≤ maxLen) (hlx : xs.length ≤ 9223372036854775807) :
    Calls Tryd.prog 3 #[.slice A xs.length cap, .int .i64 cut] w fun e w' => e = .returned (.bool true) ∧ w.Since w.heap.size w' := by
  have hmixed : Tryd.prog.follows .mixedOrders = true := layItoa.mixed
  have HE := Lib.hid he
  by_cases h50 : (50 : Int) < (xs.length : Int)
  · clear he h hs
    go_enter Tryd.func3, Tryd.ntmps3
    go_wp2
    go_ret
    exact ⟨rfl, World.Since.refl _ _⟩
  have CJ := Lib.hid (journal_any A cap xs w he h hs (by omega))
  clear he h hs
  go_enter Tryd.func3, Tryd.ntmps3
  go_wp2_with fail
  refine CJ.out.mono ?_
  rintro e w1 ⟨hs1, acc, bv, rfl, hv, ha, hr⟩
  have HS1 := Lib.hid hs1
  have HR := Lib.hid hr
  have HV := Lib.hid hv
  have hJl : (J acc).length ≤ 100000 := by
    have : (J acc).length ≤ 40 * acc.length := Jf_len (n := 0) hv.all (by omega)
    omega
  obtain ⟨AB, cB, rfl, _⟩ := own_form hr
  obtain ⟨bs, hbs⟩ : ∃ bs, bs = J acc := ⟨_, rfl⟩
  rw [← hbs] at hJl HR ⊢
  obtain ⟨n, hn⟩ : ∃ n, n = bs.length := ⟨_, rfl⟩
  rw [← hn] at hJl ⊢
  have HR : Hid (Row w1 w.heap.size (.slice AB n cB) bs) := Lib.hid (by rw [hn]; exact HR.out)
  have hp := pickF_bd cut ((n : Int) + 1) (by omega)
  obtain ⟨k, hk⟩ : ∃ k : Nat, (k : Int) = pickF cut ((n : Int) + 1) := ⟨(pickF cut ((n : Int) + 1)).toNat, by omega⟩
  have CP := Lib.hid (fun W => pick_any cut ((n : Int) + 1) W (by omega) (by omega))
  rw [← hk] at CP hp
  have hkn : k ≤ n := by omega
  obtain ⟨sv, hsl, _, hop⟩ := HR.out.cut (by omega) (show k ≤ bs.length by omega)
  have CO := Lib.hid (hop w1 (World.Since.refl _ _) (HE.out.since hs1 HE.out.low))
  have Hbs := Lib.hid hbs
  have Hn := Lib.hid hn
  clear hs1 hr hv hop hk hp CJ hbs hn
  go_wp2_with fail
  refine (CP.out _).mono ?_
  rintro e w1' ⟨rfl, rfl⟩
  go_wp2_with fail
  refine CO.out.mono ?_
  rintro e w2 ⟨hs2, db, acc', mv, jv, r, rfl, hd, hO⟩
  have hE : bs.take k ++ bs.drop k = J acc := by rw [List.take_append_drop]; exact Hbs.out
  obtain ⟨cc, hc1, hc2, _⟩ := crash HV.out hE.symm hO
  have hl1 := congrArg List.length hO.eq
  rw [List.length_append, List.length_take] at hl1
  obtain ⟨p, hp⟩ : ∃ p, p = (J acc').length := ⟨_, rfl⟩
  rw [← hp] at hl1 ⊢
  have hpk : p ≤ k := by have := Hn.out; omega
  have hrl : r.length = k - p := by have := Hn.out; omega
  have hpn : p ≤ n := by omega
  have htk : bs.take p = J acc' := by
    have h1 : (bs.take k).take p = J acc' := by rw [hO.eq, hp, List.take_left]
    rw [List.take_take, Nat.min_eq_left hpk] at h1
    exact h1
  have hno : ∀ i (hi : i < bs.length), p ≤ i → i < k → bs[i] ≠ 10 := fun i hi h1 h2 e => by
    apply hc2
    have h3 : (bs.take k)[i]? = some 10 := by rw [List.getElem?_take, if_pos h2, List.getElem?_eq_getElem hi, e]
    rw [hO.eq, List.getElem?_append_right (by omega)] at h3
    exact List.mem_of_getElem? h3
  have HR2 := Lib.hid (HR.out.since hs2)
  obtain ⟨sv2, hsl2, hcv2, _⟩ := HR2.out.cut (by have := Hn.out; omega) (show p ≤ bs.length by have := Hn.out; omega)
  rw [htk] at hcv2
  obtain ⟨sj, hsj⟩ : ∃ sj, sj = strB (J acc') := ⟨_, rfl⟩
  rw [← hsj] at hcv2
  have HE2 := Lib.hid (HE.out.since (HS1.out.trans (since_down hs2 HS1.out.size)) HE.out.low)
  have CS : Hid (∀ W, w2.Since w2.heap.size W → Calls Tryd.prog 8 #[] W fun e w' => e = .returned (.bool true) ∧ W.Since W.heap.size w') := Lib.hid (fun W hW => stored_any W (HE2.out.since hW HE2.out.low))
  have hJ' : (J acc').length ≤ 100000 := by omega
  have CJ2 : Hid (∀ W, w2.Since w2.heap.size W → Calls Tryd.prog 9 #[.pointer (some ⟨db, 0, none⟩)] W fun e w' => ∃ v, e = .returned v ∧ (convert 23 9 v).run Tryd.prog w' = .ok (.string sj) w' ∧ W.Since W.heap.size w') := Lib.hid (fun W hW => (Journal_any (hd.since hW) (by omega)).mono (fun e w' ⟨v, h1, h2, h3⟩ => ⟨v, h1, by rw [hsj]; exact h2.conv, h3⟩))
  have HCV2 := Lib.hid hcv2
  have hlen' : acc'.length ≤ acc.length := by rw [hc1, List.length_append]; omega
  have Hd := Lib.hid hd
  have Hp := Lib.hid hp
  have Hno := Lib.hid hno
  have HS2 := Lib.hid (HS1.out.trans (since_down hs2 HS1.out.size))
  have Hla := Lib.hid hlen'
  clear hE hc1 hc2 hl1 hp htk hno hcv2 hsj hlen' hd hs2 hO CO CP hrl hJ'
  go_upto_region 6 with fail
  have hpki : decide (k < p) = false := by rw [decide_eq_false_iff_not]; omega
  have hbeq : (sj.toList == sj.toList) = true := by simp
  have g3 : ∀ q : Lat w2, (convert 23 9 sv2).run Tryd.prog q.v = .ok (.string sj) q.v := fun q => HCV2.out q.v q.h
  refine wp_region_planned (S := fun w' => ∃ q : Lat w2, w' = q.v) [(false, 0), (true, 1), (true, 2), (true, 3), (true, 4), (true, 5), (true, 6), (true, 7), (true, 8), (true, 9), (true, 10), (true, 11), (true, 12), (true, 15), (true, 16), (true, 17), (true, 18), (false, 13), (false, 14), (false, 19), (false, 20)] (by assumption) (by kernel_rfl) (fun _ _ d _ _ h => by cases d <;> exact h) ⟨⟨w2.drew, since_drewN'' w2 1⟩, rfl⟩ ?_
  refine plan_next' rfl (fun K hK => ?_)
  go_simp
  refine (CS.out _ (since_drewN'' w2 1)).mono ?_
  rintro e w6 ⟨rfl, hs6⟩
  have HS6 : Hid (w2.Since w2.heap.size w6) := Lib.hid (since_join (since_drewN'' w2 1) hs6)
  refine hK _ _ ⟨⟨w6, HS6.out⟩, rfl⟩ ?_
  clear hK K hs6
  iterate 16 (refine plan_take' rfl (fun K hK => ?_); go_simp; refine hK _ ?_; clear hK K)
  refine plan_next' rfl (fun K hK => ?_)
  go_simp
  refine (CJ2.out _ HS6.out).mono ?_
  rintro e w7 ⟨vj, rfl, hcj, hs7⟩
  have HS7 : Hid (w2.Since w2.heap.size w7) := Lib.hid (since_join HS6.out hs7)
  refine hK _ _ ⟨⟨w7, HS7.out⟩, rfl⟩ ?_
  clear hK K hs7
  iterate 3 (refine plan_next' rfl (fun K hK => ?_); go_simp; refine hK _ _ ⟨⟨w7, HS7.out⟩, rfl⟩ ?_; clear hK K)
  refine plan_end ?_
  clear g3
  have HRr : Hid (Row w7 w.heap.size (.slice AB n cB) bs) := Lib.hid (HR2.out.since HS7.out)
  have HS17 : Hid (w.Since w.heap.size w7) := Lib.hid (HS2.out.trans (since_down HS7.out HS2.out.size))
  have Hd7 : Hid (DepMem w7 w1.heap.size db acc' mv jv) := Lib.hid (Hd.out.since HS7.out)
  have HE7 := Lib.hid (HE.out.since HS17.out HE.out.low)
  clear hcj CS CJ2 HCV2 HR2 HE2 HS2 HS6 HS7 Hd hsl hsl2 hbeq
  go_wp2
  go_loopg [9] (k - p) (fun gh iv wr => ∃ i : Nat, p ≤ i ∧ i ≤ k ∧ gh = k - i ∧ iv = .int .i64 (i : Int) ∧ w7 = wr)
  case atStart => exact ⟨p, Nat.le_refl _, by omega, rfl, rfl, rfl⟩
  case round =>
    obtain ⟨i, hpi, hik, rfl, rfl, rfl⟩ := hrel
    by_cases hlt : i < k
    · have hlz : (i : Int) < (k : Int) := by omega
      have hin : i < bs.length := by have := Hn.out; omega
      obtain ⟨g, rfl, _, hnc, hg, hcell⟩ := HRr.out.byte hin
      have c1 := hcell w7 (World.Since.refl _ _)
      have hne : ((bs[i].toNat : Int) == 10) = false := by
        rw [beq_eq_false_iff_ne]
        intro e
        exact Hno.out i hin hpi hlt (UInt8.toNat_inj.1 (by have : (10 : UInt8).toNat = 10 := rfl; omega))
      have hiz : (i : Int) < (n : Int) := by omega
      clear hcell
      generalize (bs[i].toNat : Int) = bv at *
      go_wp2
      go_roundg (k - (i + 1))
      case measure => go_light; omega
      case rel => go_light; exact ⟨i + 1, by omega, by omega, rfl, by go_num, rfl⟩
    · obtain rfl : i = k := by omega
      have CO2 := Lib.hid (Open_any HE7.out HRr.out (by have := Hn.out; omega))
      go_wp2_with fail
      refine CO2.out.mono ?_
      rintro e w8 ⟨hs8, db8, acc8, mv8, jv8, r8, rfl, hd8, hO8⟩
      rw [Hbs.out] at hO8
      obtain ⟨rfl, _⟩ := whole HV.out hO8
      have CM8 := Lib.hid (Moves_any hd8)
      have CM7 := Lib.hid (Moves_any (Hd7.out.since hs8))
      have HS8 := Lib.hid (HS17.out.trans (since_down hs8 HS17.out.size))
      have hjn : (J acc8).length = n := by rw [Hn.out, Hbs.out]
      rw [hjn]
      have hle2 : decide (acc'.length ≤ acc8.length) = true := decide_eq_true Hla.out
      clear hO8 hd8 hs8 hjn CO2
      go_wp2_with fail
      refine CM8.out.mono ?_
      rintro e w9 ⟨rfl, rfl⟩
      go_wp2_with fail
      refine CM7.out.mono ?_
      rintro e w10 ⟨rfl, rfl⟩
      go_wp2
      go_ret
      exact ⟨rfl, HS8.out⟩
end Go.Proofs.YtgahgdgpncnffaaDoor
