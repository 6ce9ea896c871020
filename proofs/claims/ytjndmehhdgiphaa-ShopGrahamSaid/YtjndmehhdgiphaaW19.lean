/- shop: the walk of ShopGraham. -/
import Derived.Test.YtjndmehhdgiphaaW18
import Derived.Test.YtjndmehhdgiphaaGrahF
namespace Go.Proofs.Ytjndmehhdgiphaa
open Go.RowKit HeapM GrahM McM PermM StabM

theorem fitsC {A P : Option Addr} {cap c n : Nat} {l : List Int} {M : Nat} {E : Int} {ps : List Quad} {w : World} (h : IntsAt w A l) (hp : QuadAt w P ps) (t : GF l M E ps) (hl2 : l.length ≤ 60) (hn : n = ps.length) :
    Calls Try.prog 12 #[.slice A l.length cap, .int .i64 (M : Int), .int .i64 E, .slice P n c] w (TruePost w) := by
  subst hn
  exact fits_any h hp t.fits hl2 t.few t.e0 (by have := t.e1; omega)
set_option maxHeartbeats 16000000 in
set_option maxRecDepth 100000 in
theorem graham_any {A C : Option Addr} {cap cap2 : Nat} {l mix : List Int} {M : Int} {w : World} (h : IntsAt w A l) (hlen : l.length ≤ 9223372036854775807) (hI : IntsAt w C mix) (hmix : mix.length ≤ 9223372036854775807) :
    Calls Try.prog 6 #[.slice A l.length cap, .int .i64 M, .slice C mix.length cap2] w (TruePost w) := by
  by_cases h30 : 30 < l.length
  · have h30z : (30 : Int) < (l.length : Int) := by omega
    clear h hI
    go_enter Try.func6, Try.ntmps6
    go_wp2
    go_ret
    exact ⟨rfl, World.Since.refl _ _⟩
  have h30' : l.length ≤ 30 := by omega
  have h30z : (l.length : Int) ≤ 30 := by omega
  have h30d : decide (30 < (l.length : Int)) = false := decide_eq_false (by omega)
  clear h30
  by_cases h100 : 100 < mix.length
  · have h100z : (100 : Int) < (mix.length : Int) := by omega
    clear h hI
    go_enter Try.func6, Try.ntmps6
    go_wp2
    go_ret
    exact ⟨rfl, World.Since.refl _ _⟩
  have h100' : mix.length ≤ 100 := by omega
  have h100d : decide (100 < (mix.length : Int)) = false := decide_eq_false (by omega)
  clear h100
  have CS := Lib.hid (shuffled_any l.length C cap2 mix w (by omega) hI (by omega))
  have HI := Lib.hid h
  clear h hI
  by_cases t : LensOk l M
  · obtain ⟨m, rfl⟩ : ∃ m : Nat, M = (m : Int) := ⟨M.toNat, by have := t.lo; omega⟩
    have HT := Lib.hid t
    have hlo := t.lo
    have hhi := t.hi
    have HL1 : Hid (LensOk l 1) := Lib.hid ⟨by omega, by omega, t.few, t.ok⟩
    clear t
    go_enter Try.func6, Try.ntmps6
    go_wp2_with fail
    refine CS.out.mono ?_
    rintro e w1 ⟨hs1, rfl, r, hr, hrow⟩
    have S1 := Lib.hid hs1
    have HRp := Lib.hid hr
    have CL := Lib.hid (List_ok (cap := cap) (c := l.length) (M := m) (HI.out.since (Nat.le_refl _) hs1) HT.out (natsAt hr.len hrow) hr)
    clear hs1 hr hrow CS
    go_wp2_with fail
    refine CL.out.mono ?_
    rintro e w2 ⟨hs2, a, ps, P1, c1, rfl, hres1, hq1⟩
    have S2 := Lib.hid (since_join S1.out hs2)
    have R1 := Lib.hid hres1
    have Q1 := Lib.hid hq1
    clear CL hs2 hres1 hq1 S1
    go_wp2_with fail
    refine (flowed_any _).mono ?_
    rintro e w3 ⟨rfl, hs3⟩
    have S3 := Lib.hid (since_join S2.out hs3)
    have Q1 := Lib.hid (Q1.out.same hs3)
    have CM := Lib.hid (Mc_ok (cap := cap) (HI.out.since (Nat.le_refl _) S3.out) HT.out)
    clear hs3 S2
    go_wp2_with fail
    refine CM.out.mono ?_
    rintro e w4 ⟨hs4, ms, P4, c4, rfl, _, _⟩
    have S4 := Lib.hid (since_join S3.out hs4)
    have Q1 := Lib.hid (Q1.out.same hs4)
    have CG := Lib.hid (Longest_ok (cap := cap) (HI.out.since (Nat.le_refl _) S4.out) HL1.out)
    clear hs4 S3 CM
    go_wp2_with fail
    refine CG.out.mono ?_
    rintro e w5 ⟨hs5, g, f, rfl, _, hrow5, hsort⟩
    have S5 := Lib.hid (since_join S4.out hs5)
    have Q1 := Lib.hid (Q1.out.same hs5)
    have HR2 := Lib.hid (rowL_perm hsort)
    have HSo := Lib.hid (rowL_sorted hsort)
    have CL2 := Lib.hid (List_ok (cap := cap) (c := l.length) (M := m) (HI.out.since (Nat.le_refl _) S5.out) HT.out (row_ints hrow5) HR2.out)
    clear hs5 S4 CG hrow5 hsort
    go_wp2_with fail
    refine CL2.out.mono ?_
    rintro e w6 ⟨hs6, b, qs, P6, c6, rfl, hres6, hq6⟩
    have S6 := Lib.hid (since_join S5.out hs6)
    have Q1 := Lib.hid (Q1.out.same hs6)
    have Q6 := Lib.hid hq6
    have G1 := Lib.hid (graham_facts HT.out HRp.out R1.out)
    have G6 := Lib.hid (graham_facts HT.out HR2.out hres6)
    have L6 := lpt_facts HT.out HR2.out HRp.out hres6 R1.out (HSo.out.imp (fun {x y} hxy => by unfold leC gcmp at hxy; unfold pL; omega))
    have C7 := Lib.hid (fitsC (cap := cap) (c := c1) (HI.out.since (Nat.le_refl _) S6.out) Q1.out G1.out (by omega) rfl)
    clear hs6 hq6 hres6 CL2 S5
    go_wp2_with fail
    refine C7.out.mono ?_
    rintro e w7 ⟨rfl, hs7⟩
    have S7 := Lib.hid (since_join S6.out hs7)
    have C8 := Lib.hid (fitsC (cap := cap) (c := c6) (HI.out.since (Nat.le_refl _) S7.out) (Q6.out.same hs7) G6.out (by omega) rfl)
    clear hs7 C7 S6
    go_wp2_with fail
    refine C8.out.mono ?_
    rintro e w8 ⟨rfl, hs8⟩
    have S8 := Lib.hid (since_join S7.out hs8)
    clear hs8 C8 S7
    obtain ⟨e0, e1⟩ := endL_bd HT.out
    have a0 := G1.out.e0
    have a1 := G1.out.e1
    have b0 := G6.out.e0
    have b1 := G6.out.e1
    have k1 := G1.out.lo
    have k2 := G6.out.lo
    have k3 := G1.out.two
    obtain ⟨E, hE⟩ : ∃ E, E = endL l m := ⟨_, rfl⟩
    rw [← hE] at e0 e1 k1 k2 k3 ⊢
    have p1 : 0 ≤ a * m := Int.mul_nonneg a0 (by omega)
    have p2 : a * m ≤ 60000000000 * 20 := Int.mul_le_mul a1 hhi (by omega) (by omega)
    have p3 : 0 ≤ E * (2 * m - 1) := Int.mul_nonneg e0 (by omega)
    have p4 : E * (2 * m - 1) ≤ 60000000020 * 39 := Int.mul_le_mul e1 (by omega) (by omega) (by omega)
    have p5 : 0 ≤ 3 * b * m := Int.mul_nonneg (by omega) (by omega)
    have p6 : 3 * b * m ≤ 180000000000 * 20 := Int.mul_le_mul (by omega) hhi (by omega) (by omega)
    have p7 : 0 ≤ a * (4 * m - 1) := Int.mul_nonneg a0 (by omega)
    have p8 : a * (4 * m - 1) ≤ 60000000000 * 79 := Int.mul_le_mul a1 (by omega) (by omega) (by omega)
    clear hE
    go_wp2
    go_ret
    exact ⟨rfl, S8.out⟩
  · have HN := Lib.hid t
    clear t
    go_enter Try.func6, Try.ntmps6
    go_wp2_with fail
    refine CS.out.mono ?_
    rintro e w1 ⟨hs1, rfl, r, hr, hrow⟩
    have S1 := Lib.hid hs1
    have CL := Lib.hid (List_bad (R := some ⟨w.heap.size, 0, none⟩) (cap := cap) (n := l.length) (c := l.length) (HI.out.since (Nat.le_refl _) hs1) hlen HN.out)
    clear hs1 hr hrow CS
    go_wp2_with fail
    refine CL.out.mono ?_
    rintro e w2 ⟨rfl, k, rfl⟩
    clear CL
    go_wp2_with fail
    refine (flowed_any _).mono ?_
    rintro e w3 ⟨rfl, hs3⟩
    have S3 := Lib.hid (since_join S1.out hs3)
    clear hs3 S1
    go_wp2_with fail
    refine (flowed_any _).mono ?_
    rintro e w4 ⟨rfl, hs4⟩
    have S4 := Lib.hid (since_join S3.out hs4)
    clear hs4 S3
    go_wp2
    go_ret
    exact ⟨rfl, S4.out⟩
end Go.Proofs.Ytjndmehhdgiphaa
