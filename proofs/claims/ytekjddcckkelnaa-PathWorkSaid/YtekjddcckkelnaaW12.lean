/- path: the walk of PathWork. -/
import Derived.Test.YtekjddcckkelnaaW10
namespace Go.Proofs.Ytekjddcckkelnaa
open Go.RowKit PathM

theorem ran_strict {js : List Job} {rule : Int} {o : Pieces} (h : Ran js rule o) : (∀ p ∈ o, p.1 < js.length ∧ p.2.1 < p.2.2 ∧ atJ js p.1 ≤ p.2.1 ∧ 0 ≤ p.2.1 ∧ p.2.2 ≤ 61000000000) ∧ ∀ i p q, o[i]? = some p → o[i + 1]? = some q → p.2.2 ≤ q.2.1 := by
  have hf := h.full.fine
  have hT := h.T
  refine ⟨fun p hp => ?_, fun i p q hp hq => ?_⟩
  · obtain ⟨h1, h2, h3, h4, h5⟩ := hf.each p hp
    exact ⟨h1, h2, h3, h4, by omega⟩
  · obtain ⟨hi, e1⟩ := List.getElem?_eq_some_iff.1 hp
    obtain ⟨hj, e2⟩ := List.getElem?_eq_some_iff.1 hq
    have := List.pairwise_iff_getElem.1 hf.row i (i + 1) hi hj (by omega)
    rw [e1, e2] at this
    exact this
/-- the pieces' time, of the first k -/
def T' (js : List Job) : Int := F (atJ js) (szJ js) js.length
theorem piece_sum {js : List Job} {rule : Int} {o : Pieces} (h : Ran js rule o) {k : Nat} {p : Nat × Int × Int} (hp : o[k]? = some p) : PathM.served (o.take (k + 1)) (T' js) = PathM.served (o.take k) (T' js) + (p.2.2 - p.2.1) := by
  rw [take_snoc' hp, served_append]
  have := h.full.fine.each p (List.mem_of_getElem? hp)
  unfold PathM.pos T'
  omega
theorem total {js : List Job} (hok : JobsOk js) {rule : Int} {o : Pieces} (h : Ran js rule o) : PathM.served o (T' js) = sumL (szJ js) (List.range js.length) := by
  rw [h.served, T', G_total (Jobs_of hok).size (Nat.le_refl _)]
  rfl
theorem sizes_bd {js : List Job} (hok : JobsOk js) : ∀ k, k ≤ js.length → 0 ≤ sumL (szJ js) (List.range k) ∧ sumL (szJ js) (List.range k) ≤ 1000000000 * (k : Int)
  | 0, _ => by simp [sumL]
  | k + 1, hk => by
    have h1 := sizes_bd hok k (by omega)
    have h2 := (Jobs_of hok).size k (by omega)
    have h3 := (jobs_le hok).2 k (by omega)
    rw [sumL_snoc]; omega
set_option maxHeartbeats 8000000 in
set_option maxRecDepth 100000 in
theorem work_any {A : Option Addr} {cap : Nat} {js : List Job} {i1 i2 i3 : Int} {w : World} (h : JobsAt w A js) (hlen : js.length ≤ 9223372036854775807) :
    Calls Try.prog 5 #[.slice A js.length cap, .int .i64 i1, .int .i64 i2, .int .i64 i3] w (TruePost w) := by
  by_cases p1 : 30 < js.length
  · go_enter Try.func5, Try.ntmps5
    go_wp2
    go_ret
    exact ⟨rfl, World.Since.refl _ _⟩
  have p2 : js.length ≤ 30 := by omega
  have pd : decide ((30 : Int) < (js.length : Int)) = false := decide_eq_false (by omega)
  have pd2 : decide (30 < js.length) = false := decide_eq_false (by omega)
  have hpk1 := pickF_bd i1 6 (by omega)
  have hpk2 := pickF_bd i2 6 (by omega)
  have hpk3 := pickF_bd i3 3 (by omega)
  have C1 := fun W => pick_any i1 6 W (by omega) (by omega)
  have C2 := fun W => pick_any i2 6 W (by omega) (by omega)
  have C3 := fun W => pick_any i3 3 W (by omega) (by omega)
  obtain ⟨r1, hr1⟩ : ∃ r, r = pickF i1 6 := ⟨_, rfl⟩
  obtain ⟨r2, hr2⟩ : ∃ r, r = pickF i2 6 := ⟨_, rfl⟩
  obtain ⟨r3, hr3⟩ : ∃ r, r = pickF i3 3 := ⟨_, rfl⟩
  rw [← hr1] at hpk1
  rw [← hr2] at hpk2
  rw [← hr3] at hpk3
  simp only [← hr1] at C1
  simp only [← hr2] at C2
  simp only [← hr3] at C3
  have D1 := Lib.hid C1
  have D2 := Lib.hid C2
  have D3 := Lib.hid C3
  have HJ := Lib.hid h
  clear p1 C1 C2 C3 hr1 hr2 hr3 h
  by_cases hok : JobsOk js
  · have HO := Lib.hid hok
    clear hok
    go_enter Try.func5, Try.ntmps5
    go_wp2_with fail
    refine (D1.out _).mono ?_
    rintro e w' ⟨rfl, rfl⟩
    go_wp2_with fail
    refine (D2.out _).mono ?_
    rintro e w' ⟨rfl, rfl⟩
    go_wp2_with fail
    refine (Run_ok2 A cap js (1 + r1) w HJ.out HO.out (by omega) (by omega)).mono ?_
    rintro e w1 ⟨hs1, o1, A1, cap1, R1, rfl, P1⟩
    have HR1 := Lib.hid R1
    have HP1 := Lib.hid P1
    clear R1 P1
    go_wp2_with fail
    refine (Run_ok2 A cap js (1 + r2) w1 (jobs_same HJ.out hs1) HO.out (by omega) (by omega)).mono ?_
    rintro e w2 ⟨hs2, o2, A2, cap2, R2, rfl, P2⟩
    have HR2 := Lib.hid R2
    have HP2 := Lib.hid P2
    clear R2 P2
    have hs12 := since_join hs1 hs2
    go_wp2_with fail
    refine (served_any _).mono ?_
    rintro e w3 ⟨rfl, hs3⟩
    have hs13 := since_join hs12 hs3
    have HJ3 := Lib.hid (jobs_same HJ.out hs13)
    have HP13 := Lib.hid ((HP1.out.since (Nat.le_refl _) hs2).since (Nat.le_refl _) hs3)
    have HP23 := Lib.hid (HP2.out.since (Nat.le_refl _) hs3)
    have hol := HR1.out.len
    -- what Work answers, by either
    obtain ⟨V, hV⟩ : ∃ V : Int → Int, V = fun t => come js t - G (atJ js) (szJ js) js.length t := ⟨_, rfl⟩
    have hsv : ∀ {rule : Int} {o : Pieces}, Ran js rule o → ∀ t, PathM.served o t ≤ 61000000000 := fun {rule o} hr t => by
      rw [hr.served]
      have h1 := total HO.out hr
      rw [hr.served] at h1
      have h2 := sizes_bd HO.out js.length (Nat.le_refl _)
      have h3 : G (atJ js) (szJ js) js.length t ≤ G (atJ js) (szJ js) js.length (T' js) := by
        rw [← hr.served, ← hr.served]
        have hf := hr.full.fine.each
        have : ∀ o' : Pieces, (∀ p ∈ o', p.2.2 ≤ T' js) → PathM.served o' t ≤ PathM.served o' (T' js) := fun o' => by
          unfold PathM.served
          induction o' with
          | nil => intro _; exact Int.le_refl _
          | cons p o' ih =>
            intro hp
            have h1 := ih (fun q hq => hp q (List.mem_cons_of_mem _ hq))
            have h2 := hp p (List.mem_cons_self ..)
            rw [List.map_cons, List.map_cons, List.sum_cons, List.sum_cons]
            have : PathM.pos (min t p.2.2 - p.2.1) ≤ PathM.pos (min (T' js) p.2.2 - p.2.1) := by unfold PathM.pos; omega
            omega
        exact this o (fun p hp => (hf p hp).2.2.2.2)
      omega
    have hK1 : ∀ (W : World) (t : Int), w3.Since w3.heap.size W → Calls Try.prog 11 #[.slice A js.length cap, .slice A1 o1.length cap1, .int .i64 t] W fun e w' => e = .returned (.int .i64 (V t)) ∧ W.Since W.heap.size w' := fun W t hs =>
      (Work_any A cap js A1 cap1 o1 t W (by omega) (jobs_same HJ3.out hs) HO.out.each (HP13.out.since (Nat.le_refl _) hs) HR1.out.may HR1.out.len (hsv HR1.out t)).mono fun e w' ⟨k1, k2⟩ => ⟨by rw [k1, hV, HR1.out.served], k2⟩
    have hK2 : ∀ (W : World) (t : Int), w3.Since w3.heap.size W → Calls Try.prog 11 #[.slice A js.length cap, .slice A2 o2.length cap2, .int .i64 t] W fun e w' => e = .returned (.int .i64 (V t)) ∧ W.Since W.heap.size w' := fun W t hs =>
      (Work_any A cap js A2 cap2 o2 t W (by omega) (jobs_same HJ3.out hs) HO.out.each (HP23.out.since (Nat.le_refl _) hs) HR2.out.may HR2.out.len (hsv HR2.out t)).mono fun e w' ⟨k1, k2⟩ => ⟨by rw [k1, hV, HR2.out.served], k2⟩
    have K1 := Lib.hid hK1
    have K2 := Lib.hid hK2
    have hst := ran_strict HR1.out
    have Hst := Lib.hid hst
    clear hK1 hK2 hsv hV hst hs1 hs2 hs3 hs12
    go_wp2
    go_loopg [13] (o1.length + 1) (fun g iv wr => ∃ i : Int, -1 ≤ i ∧ i ≤ (o1.length : Int) ∧ g = ((o1.length : Int) - i).toNat ∧ iv = .int .i64 i ∧ w3.Since w3.heap.size wr)
    case atStart => exact ⟨-1, by omega, by omega, by omega, rfl, World.Since.refl _ _⟩
    case round =>
      obtain ⟨i, hi1, hi2, rfl, rfl, hs⟩ := hrel
      by_cases hil : i < (o1.length : Int)
      · by_cases hi0 : 0 ≤ i
        · obtain ⟨k, rfl⟩ := Int.eq_ofNat_of_zero_le hi0
          have hkl : k < o1.length := by omega
          obtain ⟨b, off, rfl, hb, hc⟩ := HP13.out k (by rw [List.length_map]; exact hkl)
          obtain ⟨p, hp⟩ : ∃ p, o1[k]? = some p := ⟨o1[k], List.getElem?_eq_getElem hkl⟩
          obtain ⟨_, _, c2⟩ := hc k (pz p) (by rw [List.getElem?_map, hp]; rfl)
          rw [← hs.cell (show b < w3.heap.size from hb)] at c2
          obtain ⟨m1, m2, m3, m4⟩ := HR1.out.may p (List.mem_of_getElem? hp)
          simp only [pz] at c2
          generalize p.2.2 = p3 at *
          clear hc hp
          go_wp2
          go_quiet (with_reducible exact quietc (D3.out _))
          have hsd := since_drewN hs nq
          clear c2 hs
          generalize wr.drewN nq = wd at *
          obtain ⟨t, ht⟩ : ∃ t, t = p3 - r3 := ⟨_, rfl⟩
          rw [← ht]
          clear ht
          go_wp2_with fail
          refine (K1.out _ _ hsd).mono ?_
          rintro e w5 ⟨rfl, hs5⟩
          have hsd5 := since_join hsd hs5
          go_wp2_with fail
          refine (K2.out _ _ hsd5).mono ?_
          rintro e w6 ⟨rfl, hs6⟩
          have hsd6 := since_join hsd5 hs6
          generalize V t = c at *
          go_wp2
          go_roundg (((o1.length : Int) - ((k : Int) + 1)).toNat)
          case measure => go_light; omega
          case rel =>
            go_light
            exact ⟨(k : Int) + 1, by omega, by omega, rfl, rfl, hsd6⟩
        · have hif : decide (0 ≤ i) = false := decide_eq_false hi0
          go_wp2_with fail
          refine (K1.out _ _ hs).mono ?_
          rintro e w5 ⟨rfl, hs5⟩
          have hsd5 := since_join hs hs5
          go_wp2_with fail
          refine (K2.out _ _ hsd5).mono ?_
          rintro e w6 ⟨rfl, hs6⟩
          have hsd6 := since_join hsd5 hs6
          generalize V i3 = c at *
          go_wp2
          go_roundg (((o1.length : Int) - (i + 1)).toNat)
          case measure => go_light; omega
          case rel =>
            go_light
            exact ⟨i + 1, by omega, by omega, rfl, rfl, hsd6⟩
      · obtain rfl : (o1.length : Int) = i := by omega
        go_wp2
        go_loopg [15, 16] o1.length (fun g nv iv wr => ∃ (k : Nat) (v : Int), k ≤ o1.length ∧ g = o1.length - k ∧ iv = .int .i64 k ∧ nv = .int .i64 v ∧ Hid (v = PathM.served (o1.take k) (T' js)) ∧ w3.Since w3.heap.size wr)
        case atStart => exact ⟨0, 0, Nat.zero_le _, rfl, rfl, rfl, Lib.hid (by simp [PathM.served]), hs⟩
        case round =>
          clear hs
          obtain ⟨k, v, hk, rfl, rfl, rfl, hv, hs⟩ := hrel
          by_cases hkl : k < o1.length
          · have hkz : (k : Int) < (o1.length : Int) := by omega
            obtain ⟨b, off, rfl, hb, hc⟩ := HP13.out k (by rw [List.length_map]; exact hkl)
            obtain ⟨p, hp⟩ : ∃ p, o1[k]? = some p := ⟨o1[k], List.getElem?_eq_getElem hkl⟩
            obtain ⟨c0, c1, c2⟩ := hc k (pz p) (by rw [List.getElem?_map, hp]; rfl)
            rw [← hs.cell (show b < w3.heap.size from hb)] at c0 c1 c2
            obtain ⟨m1, m2, m3, m4, m5⟩ := Hst.out.1 p (List.mem_of_getElem? hp)
            obtain ⟨b', off', rfl, hb', hcj⟩ := HJ3.out p.1 m1
            obtain ⟨x, hx⟩ : ∃ x, js[p.1]? = some x := ⟨js[p.1], List.getElem?_eq_getElem m1⟩
            obtain ⟨d0, _, _⟩ := hcj p.1 x hx
            rw [← hs.cell (show b' < w3.heap.size from hb')] at d0
            rw [(jobAt hx).1] at m3
            have hnext := piece_sum HR1.out hp
            have hvv := hv.out
            have h0 := served_nonneg (o1.take k) (T' js)
            have h1 := served_take (o := o1) (t := T' js) (k + 1)
            have h2 := total HO.out HR1.out
            have h3 := sizes_bd HO.out js.length (Nat.le_refl _)
            have Hy : ∀ q y, k = q + 1 → o1[q]? = some y → y.2.2 ≤ p.2.1 := fun q y e hy => Hst.out.2 q y p hy (by rw [← e]; exact hp)
            obtain ⟨q1, q2, q3⟩ := p
            simp only [pz] at c0 c1 c2 d0 m1 m2 m3 m4 m5 hnext Hy
            generalize x.1 = x1 at *
            have hv1 : 0 ≤ v + (q3 - q2) := by omega
            have hv2 : v + (q3 - q2) ≤ 61000000000 := by omega
            have hv0 : 0 ≤ v := by omega
            have Hn : Hid (v + (q3 - q2) = PathM.served (o1.take (k + 1)) (T' js)) := Lib.hid (by omega)
            have m1z : (q1 : Int) < (js.length : Int) := by omega
            have f1 : decide ((q1 : Int) < 0) = false := decide_eq_false (by omega)
            have f2 : decide (js.length ≤ q1) = false := decide_eq_false (by omega)
            have f3 : decide (q3 ≤ q2) = false := decide_eq_false (by omega)
            have f4 : decide (q2 < x1) = false := decide_eq_false (by omega)
            clear hnext hvv h0 h1 h2 h3 hx hcj
            by_cases k0 : k = 0
            · have g1 : decide ((0 : Int) < (k : Int)) = false := decide_eq_false (by omega)
              have g2 : decide (0 < k) = false := decide_eq_false (by omega)
              have K0 := Lib.hid k0
              clear k0 Hy hp hc
              go_wp2
              go_quiet (fail)
              go_wp2
              go_quiet (fail)
              go_wp2
              go_roundg (o1.length - (k + 1))
              case measure => go_light; omega
              case rel =>
                go_light
                exact ⟨k + 1, _, by omega, rfl, by go_num, rfl, Hn, since_drewN hs _⟩
            · obtain ⟨q, rfl⟩ : ∃ q, k = q + 1 := ⟨k - 1, by omega⟩
              obtain ⟨y, hy⟩ : ∃ y, o1[q]? = some y := ⟨o1[q], List.getElem?_eq_getElem (by omega)⟩
              obtain ⟨_, _, e2⟩ := hc q (pz y) (by rw [List.getElem?_map, hy]; rfl)
              rw [← hs.cell (show b < w3.heap.size from hb)] at e2
              have hyq := Hy q y rfl hy
              simp only [pz] at e2
              generalize y.2.2 = y3 at *
              have g1 : (0 : Int) < (q : Int) + 1 := by omega
              have g2 : decide (q2 < y3) = false := decide_eq_false (by omega)
              have hqz : (q : Int) < (o1.length : Int) := by omega
              clear k0 Hy hp hc hy hyq
              go_wp2
              go_quiet (fail)
              go_wp2
              go_quiet (fail)
              go_wp2
              go_roundg (o1.length - (q + 1 + 1))
              case measure => go_light; omega
              case rel =>
                go_light
                exact ⟨q + 1 + 1, _, by omega, rfl, by go_num, rfl, Hn, since_drewN hs _⟩
          · obtain rfl : o1.length = k := by omega
            have hv1 : v = sumL (szJ js) (List.range js.length) := by
              have := hv.out
              rw [List.take_of_length_le (Nat.le_refl _), total HO.out HR1.out] at this
              exact this
            have Hv1 := Lib.hid hv1
            clear hv1 hv
            go_wp2
            go_loopg [15, 17] js.length (fun g nv iv wr => ∃ (k : Nat) (u : Int), k ≤ js.length ∧ g = js.length - k ∧ iv = .int .i64 k ∧ nv = .int .i64 u ∧ Hid (u = v - sumL (szJ js) (List.range k)) ∧ w3.Since w3.heap.size wr)
            case atStart => exact ⟨0, v, Nat.zero_le _, rfl, rfl, rfl, Lib.hid (by simp [sumL]), hs⟩
            case round =>
              clear hs
              obtain ⟨k, u, hk, rfl, rfl, rfl, hu, hs⟩ := hrel
              by_cases hkl : k < js.length
              · have hkz : (k : Int) < (js.length : Int) := by omega
                obtain ⟨b', off', rfl, hb', hcj⟩ := HJ3.out k hkl
                obtain ⟨x, hx⟩ : ∃ x, js[k]? = some x := ⟨js[k], List.getElem?_eq_getElem hkl⟩
                obtain ⟨_, d1, _⟩ := hcj k x hx
                rw [← hs.cell (show b' < w3.heap.size from hb')] at d1
                have hxj := (jobAt hx).2
                have h1 := hu.out
                have h2 := sumL_snoc (szJ js) k
                rw [hxj] at h2
                have h3 := sizes_bd HO.out (k + 1) (by omega)
                have h4 := sizes_bd HO.out k (by omega)
                have h5 := sizes_bd HO.out js.length (Nat.le_refl _)
                have h6 := Hv1.out
                generalize x.2.1 = x2 at *
                have Hn : Hid (u - x2 = v - sumL (szJ js) (List.range (k + 1))) := Lib.hid (by omega)
                have f1 : -61000000000 ≤ u - x2 := by omega
                have f2 : u - x2 ≤ 61000000000 := by omega
                clear h1 h2 h3 h4 h5 h6 hx hxj hcj
                go_wp2
                go_roundg (js.length - (k + 1))
                case measure => go_light; omega
                case rel =>
                  go_light
                  exact ⟨k + 1, _, by omega, rfl, by go_num, rfl, Hn, hs⟩
              · obtain rfl : js.length = k := by omega
                obtain rfl : u = 0 := by rw [hu.out, Hv1.out]; omega
                go_wp2
                go_ret
                exact ⟨rfl, since_join hs13 hs⟩
  · have HO := Lib.hid hok
    clear hok
    go_enter Try.func5, Try.ntmps5
    go_wp2_with fail
    refine (D1.out _).mono ?_
    rintro e w' ⟨rfl, rfl⟩
    go_wp2_with fail
    refine (D2.out _).mono ?_
    rintro e w' ⟨rfl, rfl⟩
    go_wp2_with fail
    refine (Run_bad A cap js (1 + r1) w HJ.out hlen HO.out).mono ?_
    rintro e w1 ⟨hs1, k1, rfl⟩
    go_wp2_with fail
    refine (Run_bad A cap js (1 + r2) w1 (jobs_same HJ.out hs1) hlen HO.out).mono ?_
    rintro e w2 ⟨hs2, k2, rfl⟩
    have hs12 := since_join hs1 hs2
    go_wp2_with fail
    refine (served_any _).mono ?_
    rintro e w3 ⟨rfl, hs3⟩
    have hs13 := since_join hs12 hs3
    go_wp2_with fail
    refine (served_any _).mono ?_
    rintro e w4 ⟨rfl, hs4⟩
    have hs14 := since_join hs13 hs4
    go_wp2
    go_ret
    exact ⟨rfl, hs14⟩
end Go.Proofs.Ytekjddcckkelnaa
