/- The law TreeGoldman of the verifier, walked: it returns true at all arguments. -/
import Derived.Test.YtfkeplcalmlojaaW8
namespace Go.Proofs.Ytfkeplcalmlojaa
open Go.RowKit TreeM

/-! the plain side -/
def wOf (ps : List Int) (i : Nat) : Int := ps.getD i 0
theorem sumTo_far {n : Nat} {rs : List RE} {ps : List Int} (t : WOk n rs ps) {r : Nat} (hr : r < n) : sumTo n (rs.map RE.ed) ps r n = Far n (rs.map RE.ed) (wOf ps) r := by
  refine sm_congr n fun i hi => ?_
  rw [t.tree.tree.frm_dist hr hi]
  rfl
theorem ed_at {rs : List RE} {k : Nat} {r : RE} (h : rs[k]? = some r) : (rs.map RE.ed)[k]? = some r.ed := by rw [List.getElem?_map, h]; rfl
theorem bey_beyond {n : Nat} {rs : List RE} {ps : List Int} (t : WOk n rs ps) {v k : Nat} {r : RE} (hk : rs[k]? = some r) (hin : inc r v) : beyTo n (rs.map RE.ed) ps k (oth r v) n = beyond n (rs.map RE.ed) (wOf ps) v k := by
  obtain ⟨o1, o2, o3, o4, _⟩ := t.tree.ok r (List.mem_of_getElem? hk)
  have hb : (v = r.ed.u ∧ oth r v = r.ed.v) ∨ (v = r.ed.v ∧ oth r v = r.ed.u) := by
    unfold oth RE.ed
    rcases hin with h | h
    · left; rw [if_pos h]; exact ⟨by simp only; omega, rfl⟩
    · by_cases h2 : r.a = v
      · left; rw [if_pos h2]; exact ⟨by simp only; omega, rfl⟩
      · right; rw [if_neg h2]; exact ⟨by simp only; omega, rfl⟩
  refine sm_congr n fun i hi => ?_
  have := t.tree.tree.branch (ed_at hk) hb hi
  by_cases h : 0 ≤ (frm n (drop1 (rs.map RE.ed) k) (oth r v)).getD i 0
  · rw [if_pos h, if_neg (this.1 h)]; rfl
  · rw [if_neg h, if_pos (by
      by_cases h2 : side n (rs.map RE.ed) k i = side n (rs.map RE.ed) k v
      · exact h2
      · exact absurd (this.2 h2) h)]
theorem br_all {n : Nat} {rs : List RE} {ps : List Int} (t : WOk n rs ps) (v : Nat) (P : Int → Prop) : ∀ k, k ≤ rs.length →
    ((∀ x ∈ brTo n rs ps v k, P x) ↔ ∀ j r, j < k → rs[j]? = some r → inc r v → P (beyond n (rs.map RE.ed) (wOf ps) v j)) := by
  intro k
  induction k with
  | zero => intro _; simp [brTo]
  | succ k ih =>
    intro hk
    have hi := ih (by omega)
    obtain ⟨r, hr⟩ : ∃ r, rs[k]? = some r := ⟨rs[k], List.getElem?_eq_getElem (by omega)⟩
    rw [brTo, hr]
    simp only
    by_cases hin : inc r v
    · rw [if_pos hin, List.forall_mem_append, hi, bey_beyond t hr hin]
      constructor
      · rintro ⟨h1, h2⟩ j x hj hx hix
        by_cases e : j = k
        · subst e
          rw [hr] at hx
          exact h2 _ (by simp)
        · exact h1 j x (by omega) hx hix
      · intro h
        refine ⟨fun j x hj hx hix => h j x (by omega) hx hix, fun x hx => ?_⟩
        simp at hx
        subst hx
        exact h k r (by omega) hr hin
    · rw [if_neg hin, hi]
      constructor
      · intro h1 j x hj hx hix
        by_cases e : j = k
        · subst e
          rw [hr] at hx
          injection hx with hx
          subst hx
          exact absurd hix hin
        · exact h1 j x (by omega) hx hix
      · intro h j x hj hx hix
        exact h j x (by omega) hx hix
def allOf (n : Nat) (ps : List Int) : Int := total n (wOf ps)
/-- Goldman, of what the program tells -/
theorem goldman_law {n : Nat} {rs : List RE} {ps : List Int} (t : WOk n rs ps) {a s : Int} {v : Nat} (hv : v < n) (hM : MidTo (fun r => sumTo n (rs.map RE.ed) ps r n) n a s) (hpos : ∀ r ∈ rs, 0 < r.l) :
    (∀ x ∈ brTo n rs ps v rs.length, 2 * x ≤ allOf n ps) ↔ sumTo n (rs.map RE.ed) ps v n = s := by
  have T := t.tree.tree
  rcases hM with ⟨h, _⟩ | ⟨a', h1, h2, h3, h4, h5⟩
  · omega
  have hw : ∀ i, i < n → 0 ≤ wOf ps i := fun i hi => by
    have hl := t.len
    unfold wOf
    rw [List.getD_eq_getElem?_getD, List.getElem?_eq_getElem (by omega)]
    exact (t.ok _ (List.getElem_mem _)).1
  have hg := T.goldman (wOf ps) hw hv (fun e he => by
    obtain ⟨r, hr, rfl⟩ := List.mem_map.1 he
    exact hpos r hr)
  rw [br_all t v (fun x => 2 * x ≤ allOf n ps) rs.length (Nat.le_refl _)]
  have hiff : (∀ j r, j < rs.length → rs[j]? = some r → inc r v → 2 * beyond n (rs.map RE.ed) (wOf ps) v j ≤ allOf n ps) ↔ ∀ k e, (rs.map RE.ed)[k]? = some e → (e.u = v ∨ e.v = v) → 2 * beyond n (rs.map RE.ed) (wOf ps) v k ≤ total n (wOf ps) := by
    constructor
    · intro h k e he hin
      rw [List.getElem?_map, Option.map_eq_some_iff] at he
      obtain ⟨r, hr, rfl⟩ := he
      obtain ⟨o1, o2, o3, o4, _⟩ := t.tree.ok r (List.mem_of_getElem? hr)
      exact h k r (List.getElem?_eq_some_iff.1 hr).1 hr (by unfold inc; unfold RE.ed at hin; simp only at hin; omega)
    · intro h j r _ hr hin
      obtain ⟨o1, o2, o3, o4, _⟩ := t.tree.ok r (List.mem_of_getElem? hr)
      exact h j r.ed (ed_at hr) (by unfold inc at hin; unfold RE.ed; simp only; omega)
  rw [hiff, hg]
  constructor
  · intro h
    have e1 := h a' h2
    have e2 := h5 v hv
    simp only at h3 e2
    rw [sumTo_far t h2] at h3
    rw [sumTo_far t hv] at e2 ⊢
    omega
  · intro h u hu
    have := h5 u hu
    simp only at this
    rw [sumTo_far t hu] at this
    rw [sumTo_far t hv] at h
    omega

theorem br_bd {n : Nat} {rs : List RE} {ps : List Int} (hp : ∀ p ∈ ps, 0 ≤ p ∧ p ≤ 10000) (hn : n ≤ 60) (v : Nat) : ∀ k, ∀ x ∈ brTo n rs ps v k, 0 ≤ x ∧ x ≤ 600000 := by
  intro k
  induction k with
  | zero => simp [brTo]
  | succ k ih =>
    rw [brTo]
    split
    · split
      · intro x hx
        rcases List.mem_append.1 hx with hx | hx
        · exact ih x hx
        · simp at hx
          have := bey_bd (n := n) (es := rs.map RE.ed) hp k (oth (by assumption) v) n
          subst hx
          omega
      · exact ih
    · exact ih
theorem own_ints {w : World} {base : Nat} {v : Value} {n : Nat} {xs : List Int} (h : w.ownsRow base 3 1 v n (xs.map (Value.int .i64))) : ∃ A cap, v = .slice A xs.length cap ∧ IntsAt w A xs ∧ n = xs.length := by
  have hl : xs.length = n := by have := h.1; simpa using this
  rcases h.2 with ⟨rfl, rfl⟩ | ⟨g, cap, cur, rfl, _, hh, hnc, _, hsz, hc⟩
  · exact ⟨none, 0, by rw [hl], fun k hk => absurd hk (by omega), hl.symm⟩
  · refine ⟨_, cap, by rw [hl], fun k hk => ⟨g, 0, rfl, ?_, fun k x hx => ?_⟩, hl.symm⟩
    · rcases Nat.lt_or_ge g w.heap.size with h1 | h1
      · exact h1
      · rw [Array.getElem?_eq_none h1] at hh; cases hh
    · have hu : (xs.map (Value.int .i64))[k]? = some (.int .i64 x) := by rw [List.getElem?_map, hx]; rfl
      rw [← hc, List.getElem?_take] at hu
      split at hu
      · rw [Nat.zero_add]; simp [World.cell?, hh]; simpa using hu
      · cases hu
def FreeTo (rs : List RE) (k : Nat) (f : Bool) : Prop := f = true ↔ ∀ r ∈ rs.take k, 0 < r.l
theorem FreeTo.next {rs : List RE} {k : Nat} {f : Bool} {r : RE} (h : FreeTo rs k f) (hr : rs[k]? = some r) {g : Bool} (hg : g = (f && decide (0 < r.l))) : FreeTo rs (k + 1) g := by
  unfold FreeTo at *
  rw [take_snoc' hr, List.forall_mem_append, ← h, hg]
  simp
def HalfTo (l : List Int) (all : Int) (k : Nat) (f : Bool) : Prop := f = true ↔ ∀ x ∈ l.take k, 2 * x ≤ all
theorem HalfTo.next {l : List Int} {all : Int} {k : Nat} {f : Bool} {x : Int} (h : HalfTo l all k f) (hr : l[k]? = some x) {g : Bool} (hg : g = (f && decide (2 * x ≤ all))) : HalfTo l all (k + 1) g := by
  unfold HalfTo at *
  rw [take_snoc' hr, List.forall_mem_append, ← h, hg]
  simp

set_option maxHeartbeats 4000000 in
set_option maxRecDepth 100000 in
theorem goldman_any (places wh : Int) (A C : Option Addr) (cap cap2 : Nat) (rs : List RE) (ps : List Int) (w : World) (h : RawAt w A rs) (hcap : rs.length ≤ cap) (hcm : cap ≤ maxLen) (hlen : rs.length ≤ 9223372036854775807) (hp : IntsAt w C ps) (hplen : ps.length ≤ 9223372036854775807) :
    Calls Try.prog 4 #[.int .i64 places, .slice A rs.length cap, .slice C ps.length cap2, .int .i64 wh] w fun e w' => e = .returned (.bool true) ∧ Below w.heap.size w w' := by
  by_cases hl : 25 < rs.length
  · go_enter Try.func4, Try.ntmps4
    go_wp2
    go_ret
    exact ⟨rfl, Below.refl _ _⟩
  have hl2 : rs.length ≤ 25 := by omega
  by_cases hq : 30 < ps.length
  · clear hl
    go_enter Try.func4, Try.ntmps4
    go_wp2
    go_ret
    exact ⟨rfl, Below.refl _ _⟩
  have hq2 : ps.length ≤ 30 := by omega
  clear hl hlen hq hplen
  have a1 : decide ((25 : Int) < (rs.length : Int)) = false := by simp; omega
  have a2 : decide ((30 : Int) < (ps.length : Int)) = false := by simp; omega
  by_cases t : WOk places rs ps
  case neg =>
    go_enter Try.func4, Try.ntmps4
    go_wp2_with fail
    refine (Middle_bad h (by omega) hp (by omega) t).mono ?_
    rintro e w0 ⟨hs0, k, rfl⟩
    go_wp2_with fail
    refine (grown_any w0).mono ?_
    rintro e w2 ⟨rfl, hs3⟩
    have hs4 := since_join hs0 hs3
    go_wp2_with fail
    refine (grown_any w2).mono ?_
    rintro e w3 ⟨rfl, hs5⟩
    go_wp2
    go_ret
    exact ⟨rfl, below_of (since_join hs4 hs5)⟩
  obtain ⟨n, rfl⟩ := Int.eq_ofNat_of_zero_le (show 0 ≤ places by have := t.tree.lo; omega)
  have hn1 : 1 ≤ n := by have := t.tree.lo; omega
  have hn2 : n ≤ 60 := by have := t.tree.hi; omega
  have hpl : Hid (ps.length = n) := Lib.hid (by have := t.len; omega)
  obtain ⟨v, hv⟩ := Int.eq_ofNat_of_zero_le (pickF_bd wh n (by omega)).1
  have hvn : v < n := by have := (pickF_bd wh n (by omega)).2; omega
  have Hv := Lib.hid hv
  clear hv
  go_enter Try.func4, Try.ntmps4
  go_wp2_with fail
  refine (Middle_ok h (by omega) hp t).mono ?_
  rintro e w0 ⟨hs0, k, s, rfl, hM⟩
  have HM := Lib.hid hM
  clear hM
  go_wp2_with fail
  refine (grown_any w0).mono ?_
  rintro e w2 ⟨rfl, hs3⟩
  have hs4 := since_join hs0 hs3
  clear hs0 hs3
  go_wp2_with fail
  refine (pick_any wh n w2 (by omega) (by omega)).mono ?_
  rintro e w' ⟨rfl, rfl⟩
  rw [Hv.out]
  clear a1 a2
  go_wp2
  go_loopg [12, 14] ps.length (fun g a i wr => ∃ (k : Nat) (av : Int), k ≤ ps.length ∧ g = ps.length - k ∧ i = .int .i64 k ∧ a = .int .i64 av ∧ w2 = wr ∧ 0 ≤ av ∧ av ≤ 10000 * (k : Int) ∧ Hid (av = sm k (wOf ps)))
  case atStart => exact ⟨0, 0, Nat.zero_le _, rfl, rfl, rfl, rfl, Int.le_refl _, by omega, Lib.hid rfl⟩
  case round =>
    obtain ⟨i, av, hk, rfl, rfl, rfl, rfl, hav0, hav1, hA⟩ := hrel
    by_cases hkl : i < ps.length
    · have hkz : (i : Int) < (ps.length : Int) := by omega
      obtain ⟨bb, off, rfl, hb, hc⟩ := hp i hkl
      obtain ⟨x, hx⟩ : ∃ x, ps[i]? = some x := ⟨ps[i], List.getElem?_eq_getElem hkl⟩
      obtain ⟨x0, x1⟩ := t.ok x (List.mem_of_getElem? hx)
      have c0 := hc i x hx
      have Hx : Hid (sm (i + 1) (wOf ps) = sm i (wOf ps) + x) := Lib.hid (by rw [sm]; unfold wOf; rw [List.getD_eq_getElem?_getD (l := ps), hx]; rfl)
      rw [← hs4.cell (show bb < w.heap.size from hb)] at c0
      clear hx hc
      go_wp2
      go_roundg (ps.length - (i + 1))
      case measure => go_light; omega
      case rel =>
        go_light
        exact ⟨i + 1, av + x, by omega, rfl, by go_num, rfl, rfl, by omega, by omega, Lib.hid (by rw [Hx.out, hA.out])⟩
    · obtain rfl : ps.length = i := by omega
      have hall : Hid (av = allOf n ps) := Lib.hid (by rw [hA.out, hpl.out]; rfl)
      go_wp2
      go_loopg [13, 15] rs.length (fun g f i wr => ∃ (k : Nat) (fv : Bool), k ≤ rs.length ∧ g = rs.length - k ∧ i = .int .i64 k ∧ f = .bool fv ∧ w2 = wr ∧ Hid (FreeTo rs k fv))
      case atStart => exact ⟨0, true, Nat.zero_le _, rfl, rfl, rfl, rfl, Lib.hid (by simp [FreeTo])⟩
      case round =>
        obtain ⟨j, fv, hj, rfl, rfl, rfl, rfl, hF⟩ := hrel
        by_cases hjl : j < rs.length
        · have hkz : (j : Int) < (rs.length : Int) := by omega
          obtain ⟨bb, off, rfl, hb, hc⟩ := h j hjl
          obtain ⟨⟨x, y, l⟩, he⟩ : ∃ e, rs[j]? = some e := ⟨rs[j], List.getElem?_eq_getElem hjl⟩
          obtain ⟨_, _, h2⟩ := hc j _ he
          have He := Lib.hid he
          clear he
          simp only at h2
          rw [← hs4.cell hb] at h2
          cases fv
          · go_wp2
            go_roundg (rs.length - (j + 1))
            case measure => go_light; omega
            case rel =>
              go_light
              exact ⟨j + 1, false, by omega, rfl, by go_num, rfl, rfl, Lib.hid (hF.out.next He.out (by simp))⟩
          · by_cases hl0 : 0 < l
            · go_wp2
              go_roundg (rs.length - (j + 1))
              case measure => go_light; omega
              case rel =>
                go_light
                exact ⟨j + 1, true, by omega, rfl, by go_num, rfl, rfl, Lib.hid (hF.out.next He.out (by simp; omega))⟩
            · go_wp2
              go_roundg (rs.length - (j + 1))
              case measure => go_light; omega
              case rel =>
                go_light
                exact ⟨j + 1, false, by omega, rfl, by go_num, rfl, rfl, Lib.hid (hF.out.next He.out (by simp; omega))⟩
        · obtain rfl : rs.length = j := by omega
          go_wp2_with fail
          refine (Branches_ok (h.since (Nat.le_refl _) hs4) hcap hcm (by omega) (hp.since (Nat.le_refl _) hs4) t v hvn).mono ?_
          rintro e w5 ⟨hs5, bv, rfl, hown⟩
          obtain ⟨A5, c5, rfl, hB5, _⟩ := own_ints hown
          have hs6 := since_join hs4 hs5
          clear hown
          go_wp2_with fail
          refine (Sum_ok (h.since (Nat.le_refl _) hs6) (by omega) (hp.since (Nat.le_refl _) hs6) t v hvn).mono ?_
          rintro e w7 ⟨hs7, rfl⟩
          have hs8 := since_join hs6 hs7
          have hB7 := hB5.since (Nat.le_refl _) hs7
          have hbr := br_bd (rs := rs) t.ok hn2 v rs.length
          have hts : s ≤ sumTo n (rs.map RE.ed) ps v n := by
            rcases HM.out with ⟨h, _⟩ | ⟨a', _, _, _, _, h5⟩
            · omega
            · exact h5 v hvn
          have hgl : Hid ((∀ r ∈ rs, 0 < r.l) → ((∀ x ∈ brTo n rs ps v rs.length, 2 * x ≤ allOf n ps) ↔ sumTo n (rs.map RE.ed) ps v n = s)) := Lib.hid (goldman_law t hvn HM.out)
          have hbl := brTo_len n rs ps v rs.length
          generalize brTo n rs ps v rs.length = bl at hB7 hbr hgl hbl ⊢
          generalize sumTo n (rs.map RE.ed) ps v n = tv at hts hgl ⊢
          have Hbr := Lib.hid hbr
          clear hs5 hs6 hs7 hB5 hbr
          have a3 : decide (tv < s) = false := by simp; omega
          go_wp2
          clear a3
          go_loopg [20, 21] bl.length (fun g f i wr => ∃ (k : Nat) (fv : Bool), k ≤ bl.length ∧ g = bl.length - k ∧ i = .int .i64 k ∧ f = .bool fv ∧ w7 = wr ∧ Hid (HalfTo bl av k fv))
          case atStart => exact ⟨0, true, Nat.zero_le _, rfl, rfl, rfl, rfl, Lib.hid (by simp [HalfTo])⟩
          case round =>
            obtain ⟨q, hv2, hqk, rfl, rfl, rfl, rfl, hH⟩ := hrel
            by_cases hql : q < bl.length
            · have hkz : (q : Int) < (bl.length : Int) := by omega
              obtain ⟨bb, off, rfl, hb, hc⟩ := hB7 q hql
              obtain ⟨x, hx⟩ : ∃ x, bl[q]? = some x := ⟨bl[q], List.getElem?_eq_getElem hql⟩
              have c0 := hc q x hx
              obtain ⟨x0, x1⟩ := Hbr.out x (List.mem_of_getElem? hx)
              have Hx := Lib.hid hx
              clear hx hc
              cases hv2
              · go_wp2
                go_roundg (bl.length - (q + 1))
                case measure => go_light; omega
                case rel =>
                  go_light
                  exact ⟨q + 1, false, by omega, rfl, by go_num, rfl, rfl, Lib.hid (hH.out.next Hx.out (by simp))⟩
              · by_cases hl0 : 2 * x ≤ av
                · go_wp2
                  go_roundg (bl.length - (q + 1))
                  case measure => go_light; omega
                  case rel =>
                    go_light
                    exact ⟨q + 1, true, by omega, rfl, by go_num, rfl, rfl, Lib.hid (hH.out.next Hx.out (by simp; omega))⟩
                · go_wp2
                  go_roundg (bl.length - (q + 1))
                  case measure => go_light; omega
                  case rel =>
                    go_light
                    exact ⟨q + 1, false, by omega, rfl, by go_num, rfl, rfl, Lib.hid (hH.out.next Hx.out (by simp; omega))⟩
            · obtain rfl : bl.length = q := by omega
              cases fv
              · go_wp2
                go_ret
                exact ⟨rfl, below_of hs8⟩
              · have hfree : ∀ r ∈ rs, 0 < r.l := by
                  have := hF.out.1 rfl
                  rwa [List.take_of_length_le (Nat.le_refl _)] at this
                have hiff := hgl.out hfree
                have hH2 := hH.out
                unfold HalfTo at hH2
                rw [List.take_of_length_le (Nat.le_refl _), hall.out, hiff] at hH2
                clear hiff hfree
                by_cases hts2 : tv = s
                · obtain rfl := hts2
                  obtain rfl : hv2 = true := hH2.2 rfl
                  clear hH2
                  go_wp2
                  go_ret
                  exact ⟨rfl, below_of hs8⟩
                · obtain rfl : hv2 = false := by
                    cases hv2
                    · rfl
                    · exact absurd (hH2.1 rfl) hts2
                  have hb : (tv == s) = false := beq_eq_false_iff_ne.2 hts2
                  clear hH2 hts2
                  go_wp2
                  go_ret
                  exact ⟨rfl, below_of hs8⟩
end Go.Proofs.Ytfkeplcalmlojaa
