/- depot: a line of the journal. -/
import Derived.Test.YtgahgdgpncnffaaDoorD1
import Derived.Deep.DeepCutAuto
import Derived.Deep.CutBlock
import Derived.Lib.ItoaLen
namespace Go.Proofs.YtgahgdgpncnffaaDoor
open Go.RowKit Go.Lib DepM Go.Sort

theorem dappend (a b : ByteArray) : (a ++ b).data.toList = a.data.toList ++ b.data.toList := by simp [ByteArray.data_append]
def strB (l : Bs) : ByteArray := ⟨l.toArray⟩
theorem strB_list (l : Bs) : (strB l).data.toList = l := rfl
theorem Itoa_any (k : Int) (h0 : -9223372036854775808 ≤ k) (h1 : k ≤ 9223372036854775807) (w : World) (he : Env w) : Calls Tryd.prog 23 #[.int .i64 k] w fun e w' => e = .returned (.string (strB (itoa k))) ∧ ∃ q os, w' = grow (w.drewN q) os :=
  Any.strconv_Itoa layItoa k h0 h1 w he.tab
theorem stp_val (c : Nat) (b : UInt8) (hc : c < 9973) : (wrap64 (31 * (c : Int) + wrap64 (b.toNat : Int))).tmod 9973 = ((stp c b : Nat) : Int) := by
  have hb := b.toNat_lt
  have e1 : wrap64 (b.toNat : Int) = b.toNat := by unfold wrap64; omega
  have e2 : wrap64 (31 * (c : Int) + (b.toNat : Int)) = ((31 * c + b.toNat : Nat) : Int) := by unfold wrap64; omega
  rw [e1, e2]
  unfold stp
  rw [Int.tmod_eq_emod_of_nonneg (by omega)]
  omega
theorem fold_take {s : ByteArray} {k : Nat} (hk : k < s.size) (c : Nat) : (s.data.toList.take (k + 1)).foldl stp c = stp ((s.data.toList.take k).foldl stp c) s[k] := by
  have hl : k < s.data.toList.length := by rw [Array.length_toList]; exact hk
  rw [List.take_succ_eq_append_getElem hl, List.foldl_append]
  rfl
set_option maxHeartbeats 4000000 in
theorem line_any {n : Nat} (hn : n ≤ 1000) (t : ByteArray) (v : Int) (h0 : -9223372036854775808 ≤ v) (h1 : v ≤ 9223372036854775807) (ht : t.size ≤ 1000000) (w : World) (he : Env w) :
    Calls Tryd.prog 15 #[.int .i64 (n : Int), .agg #[.string t, .int .i64 v]] w fun e w' => e = .returned (.string (strB (lineB n (t.data.toList, v)))) ∧ w.Since w.heap.size w' := by
  have hmixed : Tryd.prog.follows .mixedOrders = true := layItoa.mixed
  obtain ⟨px, hpx⟩ : ∃ px, px = w.heap.size := ⟨_, rfl⟩
  have HE := Lib.hid (he.since (B := w.heap.size) ((World.Since.refl _ _).alloc (Nat.le_refl _) (.cells #[.string t, .int .i64 v] 42)) he.low)
  have HS : Hid (w.Since w.heap.size (w.alloc (.cells #[.string t, .int .i64 v] 42))) := Lib.hid ((World.Since.refl _ _).alloc (Nat.le_refl _) _)
  have y0 : (w.alloc (.cells #[.string t, .int .i64 v] 42)).cell? ⟨px, 0, none⟩ = some (.string t) := by rw [World.cell?_alloc_at _ _ _ _ hpx]; rfl
  have y1 : (w.alloc (.cells #[.string t, .int .i64 v] 42)).cell? ⟨px, 1, none⟩ = some (.int .i64 v) := by rw [World.cell?_alloc_at _ _ _ _ hpx]; rfl
  have hlt : px < (w.alloc (.cells #[.string t, .int .i64 v] 42)).heap.size := by simp [hpx]
  go_enter Tryd.func15, Tryd.ntmps15
  go_upto_region 1 with fail
  rw [← hpx]
  clear hpx he
  generalize w.alloc (.cells #[.string t, .int .i64 v] 42) = w1 at *
  have z0 := fun n os => cell_grown hlt y0 n os
  have z1 := fun n os => cell_grown hlt y1 n os
  have HEg : Hid (∀ n os, Env (grow (w1.drewN n) os)) := Lib.hid (fun n os => HE.out.since (since_grow w1 n os) HE.out.low)
  have C1 : Hid (∀ q os, Calls Tryd.prog 23 #[.int .i64 (n : Int)] (grow (w1.drewN q) os) fun e w'' => e = .returned (.string (strB (itoa n))) ∧ ∃ p : GrownBy, w'' = grow (w1.drewN p.n) p.os) := Lib.hid (fun q os => Calls.grown_of (Itoa_any n (by omega) (by omega) _ (HEg.out q os)))
  have C2 : Hid (∀ q os, Calls Tryd.prog 23 #[.int .i64 v] (grow (w1.drewN q) os) fun e w'' => e = .returned (.string (strB (itoa v))) ∧ ∃ p : GrownBy, w'' = grow (w1.drewN p.n) p.os) := Lib.hid (fun q os => Calls.grown_of (Itoa_any v h0 h1 _ (HEg.out q os)))
  clear y0 y1
  obtain ⟨sn, hsn⟩ : ∃ sn, sn = strB (itoa n) := ⟨_, rfl⟩
  obtain ⟨sv, hsv⟩ : ∃ sv, sv = strB (itoa v) := ⟨_, rfl⟩
  have lsn : sn.size ≤ 21 := by
    rw [hsn]; show (itoa (n : Int)).toArray.size ≤ 21
    rw [List.size_toArray]; exact itoa_length_le _ (by omega) (by omega)
  have lsv : sv.size ≤ 21 := by
    rw [hsv]; show (itoa v).toArray.size ≤ 21
    rw [List.size_toArray]; exact itoa_length_le _ h0 h1
  rw [← hsn] at C1
  rw [← hsv] at C2
  have Hsn := Lib.hid hsn
  have Hsv := Lib.hid hsv
  clear hsn hsv
  have r1 : ∀ W : World, (Op.stringOp .add sn ⟨#[32]⟩).run Tryd.prog W = .ok (.string (sn ++ ⟨#[32]⟩)) W := fun W => run_string_add_sum W _ _ (by rw [show (⟨#[32]⟩ : ByteArray).size = 1 from rfl]; omega)
  obtain ⟨s1, hs1⟩ : ∃ s1, s1 = sn ++ (⟨#[32]⟩ : ByteArray) := ⟨_, rfl⟩
  have l1 : s1.size = sn.size + 1 := by rw [hs1, ByteArray.size_append]; rfl
  rw [← hs1] at r1
  have r2 : ∀ W : World, (Op.stringOp .add s1 t).run Tryd.prog W = .ok (.string (s1 ++ t)) W := fun W => run_string_add_sum W _ _ (by omega)
  obtain ⟨s2, hs2⟩ : ∃ s2, s2 = s1 ++ t := ⟨_, rfl⟩
  have l2 : s2.size = s1.size + t.size := by rw [hs2, ByteArray.size_append]
  rw [← hs2] at r2
  have r3 : ∀ W : World, (Op.stringOp .add s2 ⟨#[32]⟩).run Tryd.prog W = .ok (.string (s2 ++ ⟨#[32]⟩)) W := fun W => run_string_add_sum W _ _ (by rw [show (⟨#[32]⟩ : ByteArray).size = 1 from rfl]; omega)
  obtain ⟨s3, hs3⟩ : ∃ s3, s3 = s2 ++ (⟨#[32]⟩ : ByteArray) := ⟨_, rfl⟩
  have l3 : s3.size = s2.size + 1 := by rw [hs3, ByteArray.size_append]; rfl
  rw [← hs3] at r3
  have r4 : ∀ W : World, (Op.stringOp .add s3 sv).run Tryd.prog W = .ok (.string (s3 ++ sv)) W := fun W => run_string_add_sum W _ _ (by omega)
  obtain ⟨s4, hs4⟩ : ∃ s4, s4 = s3 ++ sv := ⟨_, rfl⟩
  have l4 : s4.size = s3.size + sv.size := by rw [hs4, ByteArray.size_append]
  rw [← hs4] at r4
  have l5 : s4.size ≤ 2000000 := by omega
  have Hpre : Hid (s4.data.toList = pre n (t.data.toList, v)) := Lib.hid (by
    rw [hs4, hs3, hs2, hs1, Hsn.out, Hsv.out, dappend, dappend, dappend, dappend, strB_list, strB_list]
    unfold pre
    simp)
  clear hs1 hs2 hs3 hs4 l1 l2 l3 l4 lsn lsv
  go_quiet_grown ((first | with_reducible exact C1.out _ _ | with_reducible exact C2.out _ _))
  go_wp2
  have HSg : Hid (w.Since w.heap.size (grow (w1.drewN nq) osq)) := Lib.hid (HS.out.trans (since_down (since_grow w1 nq osq) HS.out.size))
  have HEq := Lib.hid (HEg.out nq osq)
  clear z0 z1 HEg C1 C2 HE HS hlt r1 r2 r3 r4
  generalize grow (w1.drewN nq) osq = w2 at *
  go_loopg [6, 21] s4.size (fun gh cv iv wr => ∃ (k c : Nat), k ≤ s4.size ∧ gh = s4.size - k ∧ iv = .int .i64 (k : Int) ∧ cv = .int .i64 (c : Int) ∧ c < 9973 ∧ w2 = wr ∧ Hid (c = (s4.data.toList.take k).foldl stp 7))
  case atStart => exact ⟨0, 7, Nat.zero_le _, rfl, rfl, rfl, by omega, rfl, Lib.hid rfl⟩
  case round =>
    obtain ⟨k, c, hk, rfl, rfl, rfl, hc, rfl, hC⟩ := hrel
    by_cases hks : k < s4.size
    · have hkz : (k : Int) < (s4.size : Int) := by omega
      have hstep := fold_take hks 7
      rw [← hC.out] at hstep
      have Hval := Lib.hid (stp_val c s4[k] hc)
      have hlt2 := stp_lt c s4[k]
      go_wp2
      go_roundg (s4.size - (k + 1))
      case measure => go_light; omega
      case rel => go_light; exact ⟨k + 1, stp c s4[k], by omega, rfl, by go_num, by rw [Hval.out], hlt2, rfl, Lib.hid hstep.symm⟩
    · obtain rfl : s4.size = k := by omega
      have hcc : c = chk (pre n (t.data.toList, v)) := by
        rw [hC.out, ← Hpre.out, List.take_of_length_le (by rw [Array.length_toList]; exact Nat.le_refl _)]
        rfl
      have Hcc := Lib.hid hcc
      have C3 := Lib.hid (Itoa_any (c : Int) (by omega) (by omega) w2 HEq.out)
      obtain ⟨sc, hsc⟩ : ∃ sc, sc = strB (itoa c) := ⟨_, rfl⟩
      have lsc : sc.size ≤ 21 := by
        rw [hsc]; show (itoa (c : Int)).toArray.size ≤ 21
        rw [List.size_toArray]; exact itoa_length_le _ (by omega) (by omega)
      rw [← hsc] at C3
      have Hsc := Lib.hid hsc
      clear hsc hcc hC
      have r1 : ∀ W : World, (Op.stringOp .add s4 ⟨#[32]⟩).run Tryd.prog W = .ok (.string (s4 ++ ⟨#[32]⟩)) W := fun W => run_string_add_sum W _ _ (by rw [show (⟨#[32]⟩ : ByteArray).size = 1 from rfl]; omega)
      obtain ⟨s5, hs5⟩ : ∃ s5, s5 = s4 ++ (⟨#[32]⟩ : ByteArray) := ⟨_, rfl⟩
      have l1 : s5.size = s4.size + 1 := by rw [hs5, ByteArray.size_append]; rfl
      rw [← hs5] at r1
      have r2 : ∀ W : World, (Op.stringOp .add s5 sc).run Tryd.prog W = .ok (.string (s5 ++ sc)) W := fun W => run_string_add_sum W _ _ (by omega)
      obtain ⟨s6, hs6⟩ : ∃ s6, s6 = s5 ++ sc := ⟨_, rfl⟩
      have l2 : s6.size = s5.size + sc.size := by rw [hs6, ByteArray.size_append]
      rw [← hs6] at r2
      have r3 : ∀ W : World, (Op.stringOp .add s6 ⟨#[10]⟩).run Tryd.prog W = .ok (.string (s6 ++ ⟨#[10]⟩)) W := fun W => run_string_add_sum W _ _ (by rw [show (⟨#[10]⟩ : ByteArray).size = 1 from rfl]; omega)
      obtain ⟨s7, hs7⟩ : ∃ s7, s7 = s6 ++ (⟨#[10]⟩ : ByteArray) := ⟨_, rfl⟩
      rw [← hs7] at r3
      have hfin : s7 = strB (lineB n (t.data.toList, v)) := by
        apply ByteArray.ext
        apply Array.ext'
        rw [strB_list, hs7, hs6, hs5, dappend, dappend, dappend, Hsc.out, strB_list, Hpre.out, Hcc.out]
        unfold lineB body
        simp
      have Hfin := Lib.hid hfin
      clear hs5 hs6 hs7 l1 l2 hfin
      go_wp2_with fail
      refine C3.out.mono ?_
      rintro e w3 ⟨rfl, q, os, rfl⟩
      have HS3 : Hid (w.Since w.heap.size (grow (w2.drewN q) os)) := Lib.hid (HSg.out.trans (since_down (since_grow w2 q os) HSg.out.size))
      generalize grow (w2.drewN q) os = w3 at *
      go_wp2
      go_ret
      exact ⟨by rw [← Hfin.out]; rfl, HS3.out⟩
end Go.Proofs.YtgahgdgpncnffaaDoor
