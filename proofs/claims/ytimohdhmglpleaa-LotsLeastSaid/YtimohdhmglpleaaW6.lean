/- lots: LotsLeast's walk: whatever comes, true; nothing that was there turns. -/
import Derived.Test.YtimohdhmglpleaaW5
namespace Go.Proofs.Ytimohdhmglpleaa
open Go.RowKit PermM LotsM

set_option maxHeartbeats 8000000 in
set_option maxRecDepth 100000 in
theorem least_any {A B C D : Option Addr} {ca cb cc cd : Nat} {l o k od : List Int} {w : World} (hl : IntsAt w A l) (n1 : l.length ≤ 9223372036854775807) (ho : IntsAt w B o) (n2 : o.length ≤ 9223372036854775807) (hk : IntsAt w C k) (n3 : k.length ≤ 9223372036854775807) (hd : IntsAt w D od) (n4 : od.length ≤ 9223372036854775807) (hca : l.length ≤ ca) (hca2 : ca ≤ 9223372036854775807) :
    Calls Try.prog 3 #[.slice A l.length ca, .slice B o.length cb, .slice C k.length cc, .slice D od.length cd] w (TruePost w) := by
  by_cases p1 : 20 < l.length
  · have p1z : (20 : Int) < (l.length : Int) := by omega
    clear hl ho hk hd
    go_enter Try.func3, Try.ntmps3
    go_wp2
    go_ret
    exact ⟨rfl, World.Since.refl _ _⟩
  have q1 : l.length ≤ 20 := by omega
  have q1z : (l.length : Int) ≤ 20 := by omega
  clear p1
  by_cases p2 : 20 < o.length
  · have p2z : (20 : Int) < (o.length : Int) := by omega
    clear hl ho hk hd
    go_enter Try.func3, Try.ntmps3
    go_wp2
    go_ret
    exact ⟨rfl, World.Since.refl _ _⟩
  have q2 : o.length ≤ 20 := by omega
  have q2z : (o.length : Int) ≤ 20 := by omega
  clear p2
  by_cases p3 : 20 < k.length
  · have p3z : (20 : Int) < (k.length : Int) := by omega
    clear hl ho hk hd
    go_enter Try.func3, Try.ntmps3
    go_wp2
    go_ret
    exact ⟨rfl, World.Since.refl _ _⟩
  have q3 : k.length ≤ 20 := by omega
  have q3z : (k.length : Int) ≤ 20 := by omega
  clear p3
  by_cases p4 : 20 < od.length
  · have p4z : (20 : Int) < (od.length : Int) := by omega
    clear hl ho hk hd
    go_enter Try.func3, Try.ntmps3
    go_wp2
    go_ret
    exact ⟨rfl, World.Since.refl _ _⟩
  have q4 : od.length ≤ 20 := by omega
  have q4z : (od.length : Int) ≤ 20 := by omega
  clear p4
  have hs0 : ∀ u t, w.Since w.heap.size (w.alloc (.cells u t)) := fun u t => (World.Since.refl _ _).alloc (Nat.le_refl _) _
  have Hs0 := Lib.hid hs0
  clear hs0
  by_cases t : NeedOk l o k
  · have hlo := t.lo
    have hlk := t.lk
    have C1 : ∀ W, w.Since w.heap.size W → Calls Try.prog 4 #[.agg #[.slice A l.length ca, .slice B o.length cb, .slice C k.length cc]] W (PlanPost l o k W) := fun W hW => by
      rw [hlo, hlk]; exact Plan_ok (hl.same hW) (ho.same hW) (hk.same hW) t hca hca2
    have C2 : ∀ W, w.Since w.heap.size W → ∀ (E : Option Addr) (ce m : Nat) (q : List Int), q.length = m → IntsAt W E q → m ≤ 1000000000 → Calls Try.prog 6 #[.agg #[.slice A l.length ca, .slice B o.length cb, .slice C k.length cc], .slice E m ce] W (CostPost l o k q W) := fun W hW E ce m q hm hq hmn => by
      rw [hlo, hlk, ← hm]; exact Cost_any (hl.same hW) (ho.same hW) (hk.same hW) hq t (by omega)
    have K1 := Lib.hid C1
    have K2 := Lib.hid C2
    have HT := Lib.hid t
    have HL := Lib.hid hl
    have HD := Lib.hid hd
    clear C1 C2 hl ho hk hd t hlo hlk
    go_enter Try.func3, Try.ntmps3
    go_wp2_with fail
    refine (K1.out _ (Hs0.out _ _)).mono ?_
    rintro e w1 ⟨hs1, g, x, c, rfl, hg, hr, hP⟩
    have HR := Lib.hid hr
    have HP := Lib.hid hP
    have b0 : w1.cell? ⟨w.heap.size, 0, none⟩ = some (.slice A l.length ca) := by rw [hs1.cell (show w.heap.size < _ by simp), World.cell?_alloc_at _ _ _ _ rfl]; rfl
    have b1 : w1.cell? ⟨w.heap.size, 1, none⟩ = some (.slice B o.length cb) := by rw [hs1.cell (show w.heap.size < _ by simp), World.cell?_alloc_at _ _ _ _ rfl]; rfl
    have b2 : w1.cell? ⟨w.heap.size, 2, none⟩ = some (.slice C k.length cc) := by rw [hs1.cell (show w.heap.size < _ by simp), World.cell?_alloc_at _ _ _ _ rfl]; rfl
    have hz1 : w.heap.size < w1.heap.size := by have := hs1.size; simp at this; omega
    have hs01 := since_join (Hs0.out _ _) hs1
    obtain ⟨c0, c1⟩ := hP.bd
    clear hs1 hr hP
    go_wp2_with fail
    refine (flowed_any _).mono ?_
    rintro e w2 ⟨rfl, hs2⟩
    have hs02 := since_join hs01 hs2
    have HR2 := Lib.hid (HR.out.of_block (hs2.block _ HR.out.lt))
    rw [← hs2.cell (show w.heap.size < w1.heap.size from hz1)] at b0 b1 b2
    have hz2 : w.heap.size < w2.heap.size := by have := hs2.size; omega
    clear hs2 hs01
    obtain ⟨pc1, pc2⟩ := plan_cost HT.out HP.out
    have Pc1 := Lib.hid pc1
    have Pc2 := Lib.hid pc2
    clear pc1 pc2
    go_wp2_with fail
    refine (K2.out _ hs02 (some ⟨g, 0, none⟩) l.length l.length (planL l.length x) (planL_len _ _) (plan_ints HR2.out) (by omega)).mono ?_
    rintro e w3 ⟨hs3, hres⟩
    have hres' : e = .returned (.tuple #[.int .i64 c, .nilIface]) := by
      rcases hres with ⟨h1, _⟩ | ⟨_, _, h2⟩
      · rw [h1, Pc2.out]
      · exact absurd Pc1.out h2
    subst hres'
    have hs03 := since_join hs02 hs3
    rw [← hs3.cell (show w.heap.size < w2.heap.size from hz2)] at b0 b1 b2
    have HR3 := Lib.hid (HR2.out.of_block (hs3.block _ HR2.out.lt))
    have hz3 : w.heap.size < w3.heap.size := by have := hs3.size; omega
    have bce : (c != c) = false := by simp
    have bln : (((l.length : Nat) : Int) != ((l.length : Nat) : Int)) = false := by simp
    have d1 : decide (20 < (l.length : Int)) = false := decide_eq_false (by omega)
    have d2 : decide (20 < (o.length : Int)) = false := decide_eq_false (by omega)
    have d3 : decide (20 < (k.length : Int)) = false := decide_eq_false (by omega)
    have d4 : decide (20 < (od.length : Int)) = false := decide_eq_false (by omega)
    have hW : ∀ t, 0 ≤ fn l t ∧ fn l t ≤ 1000000 := fn_bd (by omega) HT.out.okl
    have HW := Lib.hid hW
    clear hs3 hres hW
    go_wp2
    go_loopg [15, 16] l.length (fun gh hv' iv wr => ∃ (t : Nat) (h : Int), t ≤ l.length ∧ gh = l.length - t ∧ iv = .int .i64 t ∧ hv' = .int .i64 h ∧ 0 ≤ h ∧ h ≤ 1000000000 ∧ Hid (h = hv (fn l) x t) ∧ w3.Since w3.heap.size wr)
    case atStart => exact ⟨0, 0, Nat.zero_le _, rfl, rfl, rfl, by omega, by omega, Lib.hid rfl, World.Since.refl _ _⟩
    case round =>
      obtain ⟨t, h, htn, rfl, rfl, rfl, h0, h1, hh, hsr⟩ := hrel
      by_cases ht : t < l.length
      · have htz : (t : Int) < (l.length : Int) := by omega
        obtain ⟨bA, oA, rfl, hbA, hcA⟩ := HL.out t ht
        have f0 := hcA t _ (fn_get ht)
        rw [← hs03.cell (show bA < w.heap.size from hbA), ← hsr.cell (show bA < w3.heap.size by have := hs03.size; omega)] at f0
        have g0 := HR3.out.cell ht
        rw [← hsr.cell (show g < w3.heap.size from HR3.out.lt)] at g0
        have hx0 := HP.out.pos t
        have hx1 := x_le HW.out HP.out.pos (by omega) HP.out.ok ht
        have hn := ok_none HP.out.ok ht
        rw [← hh.out] at hn
        have hh2 := (ok_hv HP.out.ok (t + 1) ht).2
        have hhv : hv (fn l) x (t + 1) = h + x t - fn l t := by rw [hh.out]; rfl
        have hb := hv_bd (w := fn l) (x := x) (fun t => (HW.out t).1) (fun u => by
          by_cases hu : u < l.length
          · exact x_le HW.out HP.out.pos (by omega) HP.out.ok hu
          · rw [HP.out.high u (by omega)]; omega) (t + 1)
        rw [hhv] at hh2 hb
        have Hhv := Lib.hid hhv
        have hwl := HW.out t
        clear hcA hhv
        generalize fn l t = fl at *
        generalize x t = xt at *
        by_cases hpos : 0 < h
        · have hxt : xt = 0 := by have := hn hpos; omega
          have hxd : decide (0 < xt) = false := decide_eq_false (by omega)
          have hxle : xt ≤ 0 := by omega
          clear hn hxt
          go_wp2
          go_quiet (fail)
          go_wp2
          go_roundg (l.length - (t + 1))
          case measure => go_light; omega
          case rel =>
            go_light
            exact ⟨t + 1, h + (xt - fl), by omega, rfl, by go_num, rfl, by omega, by omega, Lib.hid (by rw [Hhv.out]; omega), since_drewN hsr _⟩
        · have hpos' : h ≤ 0 := by omega
          clear hn hpos
          go_wp2
          go_quiet (fail)
          go_wp2
          go_roundg (l.length - (t + 1))
          case measure => go_light; omega
          case rel =>
            go_light
            exact ⟨t + 1, h + (xt - fl), by omega, rfl, by go_num, rfl, by omega, by omega, Lib.hid (by rw [Hhv.out]; omega), since_drewN hsr _⟩
      · obtain rfl : l.length = t := by omega
        have hs04 := since_join hs03 hsr
        rw [← hsr.cell (show w.heap.size < w3.heap.size from hz3)] at b0 b1 b2
        go_wp2_with fail
        refine (K2.out _ hs04 D cd od.length od rfl (HD.out.same hs04) (by omega)).mono ?_
        rintro e w5 ⟨hs5, hres⟩
        have hs05 := since_join hs04 hs5
        rcases hres with ⟨rfl, hok⟩ | ⟨cc, rfl, hno⟩
        · have hle := costok_best HP.out hok
          generalize cost (fn l) (fn o) (fn k) (fn od) l.length = cost2 at *
          clear hok hs5
          go_wp2
          go_ret
          exact ⟨rfl, hs05⟩
        · clear hno hs5
          go_wp2
          go_ret
          exact ⟨rfl, hs05⟩
  · have C1 : ∀ W, w.Since w.heap.size W → Calls Try.prog 4 #[.agg #[.slice A l.length ca, .slice B o.length cb, .slice C k.length cc]] W (BadPlan W) := fun W hW => Plan_bad (hl.same hW) (ho.same hW) (hk.same hW) (by omega) (by omega) (by omega) t
    have K1 := Lib.hid C1
    clear C1 hl ho hk hd t
    go_enter Try.func3, Try.ntmps3
    go_wp2_with fail
    refine (K1.out _ (Hs0.out _ _)).mono ?_
    rintro e w1 ⟨hs1, c, rfl⟩
    have hs01 := since_join (Hs0.out _ _) hs1
    clear hs1
    go_wp2_with fail
    refine (flowed_any _).mono ?_
    rintro e w2 ⟨rfl, hs2⟩
    have hs02 := since_join hs01 hs2
    go_wp2_with fail
    refine (flowed_any _).mono ?_
    rintro e w3 ⟨rfl, hs3⟩
    have hs03 := since_join hs02 hs3
    go_wp2
    go_ret
    exact ⟨rfl, hs03⟩
end Go.Proofs.Ytimohdhmglpleaa
