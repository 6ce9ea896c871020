/- path: what is known of Run's answer; the walk of PathShortest. -/
import Derived.Test.YtekjddcckkelnaaW9
namespace Go.Proofs.Ytekjddcckkelnaa
open Go.RowKit PathM

theorem quietc {P : Program} {f : FuncId} {args : Array Value} {w : World} {n : Nat} {v : Value} (h : Calls P f args (w.drewN n) fun e w' => e = .returned v ∧ w.drewN n = w') :
    Calls P f args (w.drewN n) fun e w'' => e = .returned v ∧ ∃ m, w'' = w.drewN m := h.mono fun _ _ ⟨he, hm⟩ => ⟨he, n, hm.symm⟩
theorem shortest_best {js : List Job} (rule : Int) (h6 : rule = 6) : preB rule = true ∧ ∀ left l m, BestOf rule js left l m → ∀ j ∈ l, left m ≤ left j := by
  subst h6
  refine ⟨rfl, fun left l m hb j hj => ?_⟩
  have hr : ∀ i, rk 6 js left i = left i := fun i => by unfold rk; simp
  have := hb.least j hj
  rw [hr, hr] at this
  omega
structure Ran (js : List Job) (rule : Int) (o : Pieces) : Prop where
  may : MayAll js.length o
  len : o.length ≤ 61000000000
  full : Full (atJ js) (szJ js) js.length (decide (rule = 6)) (F (atJ js) (szJ js) js.length) o
  served : ∀ t, PathM.served o t = G (atJ js) (szJ js) js.length t
  T : F (atJ js) (szJ js) js.length ≤ 61000000000
theorem ran_of {js : List Job} {rule : Int} (h : JobsOk js) {s : St} (hR : PathM.Reach (atJ js) (szJ js) js.length (preB rule) (BestOf rule js) s) (he : ¬ (s.next < js.length ∨ s.wait ≠ [])) : Ran js rule s.out := by
  have hJ := Jobs_of h
  have B := bounds h hR
  have I := hR.inv hJ
  have hF := hR.full hJ (srpt := decide (rule = 6)) (fun e => shortest_best rule (of_decide_eq_true e)) he
  obtain ⟨h1, h2, h3⟩ := I.end hJ he
  have hn1 := B.now1
  refine ⟨fun p hp => ?_, B.out, hF, h3, by omega⟩
  have := I.fine.each p hp
  exact ⟨this.1, this.2.2.2.1, by omega, by omega⟩
def RunPost2 (js : List Job) (rule : Int) (w : World) (e : Ending) (w' : World) : Prop :=
  w.Since w.heap.size w' ∧ ∃ (o : Pieces) (A : Option Addr) (cap : Nat), Ran js rule o ∧ e = .returned (.tuple #[.slice A o.length cap, .nilIface]) ∧ PiecesAt w' A o
theorem Run_ok2 (A : Option Addr) (cap : Nat) (js : List Job) (rule : Int) (w : World) (h : JobsAt w A js) (hok : JobsOk js) (h1 : 1 ≤ rule) (h6 : rule ≤ 6) :
    Calls Try.prog 8 #[.slice A js.length cap, .int .i64 rule] w (RunPost2 js rule w) :=
  (Run_ok A cap js rule w h hok h1 h6).mono fun _ _ ⟨hs, s, _, hR, he, hv, hown⟩ => by
    obtain ⟨A2, cap2, hv2, _, _⟩ := own_form hown
    exact ⟨hs, s.out, A2, cap2, ran_of hok hR he, by rw [hv, hv2], own_pieces hown hv2⟩
theorem jobs_same {w w' : World} {A : Option Addr} {js : List Job} (h : JobsAt w A js) (hs : w.Since w.heap.size w') : JobsAt w' A js := h.since (Nat.le_refl _) hs
theorem sumL_snoc (f : Nat → Int) (k : Nat) : sumL f (List.range (k + 1)) = sumL f (List.range k) + f k := by
  rw [List.range_succ, sumL_append]
  simp [sumL]
theorem end_bd {js : List Job} {rule : Int} {o : Pieces} (h : Ran js rule o) (i : Nat) : 0 ≤ endOf o i ∧ endOf o i ≤ 61000000000 := by
  have h1 := (endOf_spec o i).1
  have h2 := h.full.end_le i
  have h3 := h.T
  exact ⟨h1, by omega⟩
theorem ends_bd {js : List Job} {rule : Int} {o : Pieces} (h : Ran js rule o) : ∀ k, 0 ≤ sumL (endOf o) (List.range k) ∧ sumL (endOf o) (List.range k) ≤ 61000000000 * (k : Int)
  | 0 => by simp [sumL]
  | k + 1 => by
    have h1 := ends_bd h k
    have h2 := end_bd h k
    rw [sumL_snoc]; omega
set_option maxHeartbeats 4000000 in
set_option maxRecDepth 100000 in
theorem shortest_any {A : Option Addr} {cap : Nat} {js : List Job} {i1 : Int} {w : World} (h : JobsAt w A js) (hlen : js.length ≤ 9223372036854775807) :
    Calls Try.prog 4 #[.slice A js.length cap, .int .i64 i1] w (TruePost w) := by
  by_cases p1 : 30 < js.length
  · go_enter Try.func4, Try.ntmps4
    go_wp2
    go_ret
    exact ⟨rfl, World.Since.refl _ _⟩
  have p2 : js.length ≤ 30 := by omega
  have hpk := pickF_bd i1 6 (by omega)
  have C1 := fun W => pick_any i1 6 W (by omega) (by omega)
  obtain ⟨r, hr⟩ : ∃ r, r = pickF i1 6 := ⟨_, rfl⟩
  rw [← hr] at hpk
  simp only [← hr] at C1
  have D1 := Lib.hid C1
  have HJ := Lib.hid h
  clear p1 C1 hr h
  by_cases hok : JobsOk js
  · have HO := Lib.hid hok
    clear hok
    go_enter Try.func4, Try.ntmps4
    go_wp2_with fail
    refine (Run_ok2 A cap js 6 w HJ.out HO.out (by omega) (by omega)).mono ?_
    rintro e w1 ⟨hs1, o1, A1, cap1, R1, rfl, P1⟩
    have HR1 := Lib.hid R1
    have HP1 := Lib.hid P1
    clear R1 P1
    go_wp2_with fail
    refine (D1.out _).mono ?_
    rintro e w' ⟨rfl, rfl⟩
    go_wp2_with fail
    refine (Run_ok2 A cap js (1 + r) w1 (jobs_same HJ.out hs1) HO.out (by omega) (by omega)).mono ?_
    rintro e w2 ⟨hs2, o2, A2, cap2, R2, rfl, P2⟩
    have HR2 := Lib.hid R2
    have HP2 := Lib.hid P2
    clear R2 P2
    have hs12 := since_join hs1 hs2
    go_wp2_with fail
    refine (served_any _).mono ?_
    rintro e w3 ⟨rfl, hs3⟩
    have hs13 := since_join hs12 hs3
    go_wp2_with fail
    refine (Ends_any A cap js.length A1 cap1 o1 w3 (by omega) ((HP1.out.since (Nat.le_refl _) hs2).since (Nat.le_refl _) hs3) HR1.out.may HR1.out.len).mono ?_
    rintro e w4 ⟨hs4, g1, rfl, hg1, row1⟩
    have hs14 := since_join hs13 hs4
    go_wp2_with fail
    refine (Ends_any A cap js.length A2 cap2 o2 w4 (by omega) ((HP2.out.since (Nat.le_refl _) hs3).since (Nat.le_refl _) hs4) HR2.out.may HR2.out.len).mono ?_
    rintro e w5 ⟨hs5, g2, rfl, hg2, row2⟩
    have hs15 := since_join hs14 hs5
    have row1' := row1.of_block (hs5.block _ row1.lt)
    clear row1 hs1 hs2 hs3 hs4 hs5 hs12 hs13 hs14 hg1 hg2
    have hle := srpt_best (Jobs_of HO.out) (hA := HR1.out.full) (hB := HR2.out.full)
    have Hle := Lib.hid hle
    clear hle
    go_wp2
    go_loopg [11, 12] js.length (fun g n i wr => ∃ (k : Nat) (v : Int), k ≤ js.length ∧ g = js.length - k ∧ i = .int .i64 k ∧ n = .int .i64 v ∧ Hid (v = sumL (endOf o2) (List.range k) - sumL (endOf o1) (List.range k)) ∧ ∃ m, wr = w5.drewN m)
    case atStart => exact ⟨0, 0, Nat.zero_le _, rfl, rfl, rfl, Lib.hid (by simp [sumL]), 0, rfl⟩
    case round =>
      obtain ⟨k, v, hk, rfl, rfl, rfl, hv, m, rfl⟩ := hrel
      by_cases hkl : k < js.length
      · have hkz : (k : Int) < (js.length : Int) := by omega
        have q1 := row1'.cell hkl
        have q2 := row2.cell hkl
        have b1 := end_bd HR1.out k
        have b2 := end_bd HR2.out k
        have s1 := ends_bd HR1.out k
        have s2 := ends_bd HR2.out k
        have hvv := hv.out
        have n1 := sumL_snoc (endOf o1) k
        have n2 := sumL_snoc (endOf o2) k
        obtain ⟨e1, he1⟩ : ∃ z, z = endOf o1 k := ⟨_, rfl⟩
        obtain ⟨e2, he2⟩ : ∃ z, z = endOf o2 k := ⟨_, rfl⟩
        rw [← he1] at q1 b1 n1
        rw [← he2] at q2 b2 n2
        have hv1 : -2000000000000 ≤ v := by omega
        have hv2 : v ≤ 2000000000000 := by omega
        have hnext : Hid (v + (e2 - e1) = sumL (endOf o2) (List.range (k + 1)) - sumL (endOf o1) (List.range (k + 1))) := Lib.hid (by omega)
        clear hvv n1 n2 he1 he2 s1 s2
        go_wp2
        go_quiet (fail)
        go_wp2
        go_roundg (js.length - (k + 1))
        case measure => go_light; omega
        case rel =>
          go_light
          exact ⟨k + 1, _, by omega, rfl, by go_num, rfl, hnext, _, rfl⟩
      · obtain rfl : js.length = k := by omega
        have hv0 : 0 ≤ v := by
          have h1 := hv.out
          have h2 := Hle.out
          rw [h1]
          exact Int.sub_nonneg_of_le h2
        go_wp2
        go_ret
        exact ⟨rfl, since_drewN hs15 m⟩
  · have HO := Lib.hid hok
    clear hok
    go_enter Try.func4, Try.ntmps4
    go_wp2_with fail
    refine (Run_bad A cap js 6 w HJ.out hlen HO.out).mono ?_
    rintro e w1 ⟨hs1, k1, rfl⟩
    go_wp2_with fail
    refine (D1.out _).mono ?_
    rintro e w' ⟨rfl, rfl⟩
    go_wp2_with fail
    refine (Run_bad A cap js (1 + r) w1 (jobs_same HJ.out hs1) hlen HO.out).mono ?_
    rintro e w2 ⟨hs2, k2, rfl⟩
    have hs12 := since_join hs1 hs2
    go_wp2_with fail
    refine (served_any _).mono ?_
    rintro e w3 ⟨rfl, hs3⟩
    have hs13 := since_join hs12 hs3
    go_wp2_with fail
    refine (served_any _).mono ?_
    rintro e w4 ⟨rfl, hs4⟩
    have hs14 := since_join hs13 hs4
    go_wp2
    go_ret
    exact ⟨rfl, hs14⟩
end Go.Proofs.Ytekjddcckkelnaa
