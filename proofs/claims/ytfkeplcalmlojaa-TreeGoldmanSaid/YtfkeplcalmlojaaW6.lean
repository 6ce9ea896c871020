/- The law TreeCenters of the verifier, walked: it returns true at all arguments. -/
import Derived.Test.YtfkeplcalmlojaaW5
namespace Go.Proofs.Ytfkeplcalmlojaa
open Go.RowKit TreeM

theorem below_of {w w' : World} {B : Nat} (h : w.Since B w') : Below B w w' := ⟨h.os, h.tape, h.output, h.size, h.block⟩
def LongTo (rs : List RE) (k : Nat) (m : Int) : Prop := 0 ≤ m ∧ m ≤ 1000000000 ∧ ∀ r ∈ rs.take k, r.l ≤ m
theorem take_snoc' {α : Type} {xs : List α} {k : Nat} {x : α} (h : xs[k]? = some x) : xs.take (k + 1) = xs.take k ++ [x] := by
  obtain ⟨hk, he⟩ := List.getElem?_eq_some_iff.1 h
  rw [List.take_succ_eq_append_getElem hk, he]
theorem LongTo.next {rs : List RE} {k : Nat} {m m' : Int} {r : RE} (h : LongTo rs k m) (hr : rs[k]? = some r) (h1 : m ≤ m') (h2 : r.l ≤ m') (h3 : m' ≤ 1000000000) : LongTo rs (k + 1) m' := by
  refine ⟨by have := h.1; omega, h3, fun x hx => ?_⟩
  rw [take_snoc' hr] at hx
  rcases List.mem_append.1 hx with hx | hx
  · have := h.2.2 x hx; omega
  · simp at hx; rw [hx]; exact h2

theorem centers_law {n : Nat} {rs : List RE} (t : TreeOk n rs) {a k b' : Int} {r d m : Int} (hC : CenterTo n (rs.map RE.ed) n k r) (hA : AcrossTo n (rs.map RE.ed) n 0 a b' d) (hL : LongTo rs rs.length m) :
    ∃ k' a' b : Nat, k = k' ∧ k' < n ∧ a = a' ∧ a' < n ∧ b' = b ∧ b < n ∧ (frm n (rs.map RE.ed) a').getD b 0 = d ∧ (∀ i, i < n → (frm n (rs.map RE.ed) k').getD i 0 ≤ r) ∧ (∀ i, i < n → (frm n (rs.map RE.ed) a').getD i 0 ≤ d) ∧
      d ≤ 2 * r ∧ 2 * r ≤ d + m ∧ 0 ≤ r ∧ r ≤ 60000000000 ∧ 0 ≤ d ∧ d ≤ 60000000000 := by
  have hn2 : n ≤ 60 := by have := t.hi; omega
  have T := t.tree
  obtain ⟨a', b, h1, h2, h3, h4, h5, h6, _⟩ := hA
  rcases hC with ⟨h, _⟩ | ⟨k', g1, g2, g3, g4, g5⟩
  · omega
  have hecc : ∀ i, i < n → (frm n (rs.map RE.ed) k').getD i 0 ≤ r := fun i hi => by
    have hl := frm_len t.ok k'
    rw [List.getD_eq_getElem?_getD, List.getElem?_eq_getElem (by omega)]
    exact g3.2 _ (List.getElem_mem _)
  have hc := T.centers (k := k') (a := a') (b := b) (r := r) (d := d) (long := m) h3 h4 (fun i hi => by rw [← T.frm_dist g2 hi]; exact hecc i hi)
    (fun c hc => by
      obtain ⟨mm, e1, e2⟩ := g5 c hc
      obtain ⟨i, hi, he⟩ := List.getElem_of_mem e1.1
      have hl := frm_len t.ok c
      refine ⟨i, by omega, ?_⟩
      rw [← T.frm_dist hc (by omega), List.getD_eq_getElem?_getD, List.getElem?_eq_getElem hi, he]
      exact e2)
    (by rw [← T.frm_dist h3 h4]; exact h5)
    (fun i j hi hj => by rw [← T.frm_dist hi hj]; exact h6 i j hi hj)
    (fun e he => by
      obtain ⟨x, hx, rfl⟩ := List.mem_map.1 he
      exact hL.2.2 x (by rw [List.take_of_length_le (Nat.le_refl _)]; exact hx))
    hL.1
  have hd0 : 0 ≤ d := by rw [← h5]; exact T.reach h3 h4
  have hdm := frm_bound n (rs.map RE.ed) (good_of t.ok) 1000000000 (by omega) (max_of t.ok) a' h3 b
  rw [h5] at hdm
  have := hL.2.1
  have hrm : r ≤ 60000000000 := by
    obtain ⟨i, hi, he⟩ := List.getElem_of_mem g3.1
    have := frm_bound n (rs.map RE.ed) (good_of t.ok) 1000000000 (by omega) (max_of t.ok) k' g2 i
    rw [List.getD_eq_getElem?_getD, List.getElem?_eq_getElem hi, he, Option.getD_some] at this
    omega
  exact ⟨k', a', b, g1, g2, h1, h3, h2, h4, h5, hecc, fun i hi => h6 a' i h3 hi, hc.1, hc.2, g4, hrm, hd0, by omega⟩

set_option maxHeartbeats 4000000 in
set_option maxRecDepth 100000 in
theorem centers_any (places : Int) (A : Option Addr) (cap : Nat) (rs : List RE) (w : World) (h : RawAt w A rs) (hlen : rs.length ≤ 9223372036854775807) :
    Calls Try.prog 3 #[.int .i64 places, .slice A rs.length cap] w fun e w' => e = .returned (.bool true) ∧ Below w.heap.size w w' := by
  by_cases hl : 25 < rs.length
  · go_enter Try.func3, Try.ntmps3
    go_wp2
    go_ret
    exact ⟨rfl, Below.refl _ _⟩
  have hl2 : rs.length ≤ 25 := by omega
  clear hl hlen
  by_cases t : TreeOk places rs
  case neg =>
    go_enter Try.func3, Try.ntmps3
    go_wp2_with fail
    refine (Center_bad h (by omega) t).mono ?_
    rintro e w0 ⟨hs0, k, rfl⟩
    go_wp2_with fail
    refine (Across_bad (h.since (Nat.le_refl _) hs0) (by omega) t).mono ?_
    rintro e w1 ⟨hs1, k1, rfl⟩
    have hs2 := since_join hs0 hs1
    go_wp2_with fail
    refine (grown_any w1).mono ?_
    rintro e w2 ⟨rfl, hs3⟩
    have hs4 := since_join hs2 hs3
    go_wp2_with fail
    refine (grown_any w2).mono ?_
    rintro e w3 ⟨rfl, hs5⟩
    go_wp2
    go_ret
    exact ⟨rfl, below_of (since_join hs4 hs5)⟩
  obtain ⟨n, rfl⟩ := Int.eq_ofNat_of_zero_le (show 0 ≤ places by have := t.lo; omega)
  have hn1 : 1 ≤ n := by have := t.lo; omega
  have hn2 : n ≤ 60 := by have := t.hi; omega
  go_enter Try.func3, Try.ntmps3
  go_wp2_with fail
  refine (Center_ok h (by omega) t).mono ?_
  rintro e w0 ⟨hs0, k, r, rfl, hC⟩
  go_wp2_with fail
  refine (Across_ok (h.since (Nat.le_refl _) hs0) (by omega) t).mono ?_
  rintro e w1 ⟨hs1, a, b, d, rfl, hA⟩
  have hs2 := since_join hs0 hs1
  go_wp2_with fail
  refine (grown_any w1).mono ?_
  rintro e w2 ⟨rfl, hs3⟩
  have hs4 := since_join hs2 hs3
  clear hs0 hs1 hs2 hs3
  go_wp2
  go_loopg [12, 13] rs.length (fun g m i wr => ∃ (k : Nat) (mv : Int), k ≤ rs.length ∧ g = rs.length - k ∧ i = .int .i64 k ∧ m = .int .i64 mv ∧ w2 = wr ∧ Hid (LongTo rs k mv))
  case atStart => exact ⟨0, 0, Nat.zero_le _, rfl, rfl, rfl, rfl, Lib.hid ⟨by omega, by omega, by simp⟩⟩
  case round =>
    obtain ⟨i, m, hk, rfl, rfl, rfl, rfl, hL⟩ := hrel
    by_cases hkl : i < rs.length
    · have hkz : (i : Int) < (rs.length : Int) := by omega
      obtain ⟨bb, off, rfl, hb, hc⟩ := h i hkl
      obtain ⟨⟨x, y, l⟩, he⟩ : ∃ e, rs[i]? = some e := ⟨rs[i], List.getElem?_eq_getElem hkl⟩
      have hok := (t.ok _ (List.mem_of_getElem? he)).2.2.2.2.2
      obtain ⟨_, _, h2⟩ := hc i _ he
      have He := Lib.hid he
      clear he
      simp only at h2 hok
      rw [← hs4.cell hb] at h2
      by_cases hml : m < l
      · go_wp2
        go_roundg (rs.length - (i + 1))
        case measure => go_light; omega
        case rel =>
          go_light
          exact ⟨i + 1, l, by omega, rfl, by go_num, rfl, rfl, Lib.hid (hL.out.next He.out (by omega) (Int.le_refl _) hok)⟩
      · go_wp2
        go_roundg (rs.length - (i + 1))
        case measure => go_light; omega
        case rel =>
          go_light
          exact ⟨i + 1, m, by omega, rfl, by go_num, rfl, rfl, Lib.hid (hL.out.next He.out (Int.le_refl _) (by omega) hL.out.2.1)⟩
    · obtain rfl : rs.length = i := by omega
      obtain ⟨k', a', b', rfl, hk', rfl, ha', rfl, hb', q1, q2, q3, q4, q5, q6, q7, q8, q9⟩ := centers_law t hC hA hL.out
      have hL0 := hL.out.1
      have hL1 := hL.out.2.1
      clear hC hA
      go_wp2_with fail
      refine (Far_ok (h.since (Nat.le_refl _) hs4) (by omega) t a' ha').mono ?_
      rintro e w3 ⟨hs5, bf, hbf, rfl, hrf⟩
      have hs6 := since_join hs4 hs5
      go_wp2_with fail
      refine (Far_ok (h.since (Nat.le_refl _) hs6) (by omega) t k' hk').mono ?_
      rintro e w4 ⟨hs7, bg, hbg, rfl, hrg⟩
      have hs8 := since_join hs6 hs7
      have hrf' : w4.rowIs bf 3 n (fun i => .int .i64 ((frm n (rs.map RE.ed) a').getD i 0)) := hrf.of_block (hs7.block bf hrf.lt)
      clear hs4 hs5 hs6 hs7 hrf hbf hbg
      have cb := hrf'.cell hb'
      rw [q1] at cb
      have hbz : (b' : Int) < (n : Int) := by omega
      have d1 : decide ((b' : Int) < 0) = false := by simp
      have d2 : decide (n ≤ b') = false := by simp; omega
      go_wp2
      clear cb d1 d2
      go_loopg [18] n (fun g i wr => ∃ k : Nat, k ≤ n ∧ g = n - k ∧ i = .int .i64 k ∧ w4 = wr)
      case atStart => exact ⟨0, Nat.zero_le _, rfl, rfl, rfl⟩
      case round =>
        obtain ⟨i, hi, rfl, rfl, rfl⟩ := hrel
        by_cases hin : i < n
        · have hiz : (i : Int) < (n : Int) := by omega
          have c1 := hrg.cell hin
          have c2 := hrf'.cell hin
          have v1 := q2 i hin
          have v2 := q3 i hin
          generalize (frm n (rs.map RE.ed) k').getD i 0 = x at c1 v1
          generalize (frm n (rs.map RE.ed) a').getD i 0 = y at c2 v2
          go_wp2
          go_roundg (n - (i + 1))
          case measure => go_light; omega
          case rel =>
            go_light
            exact ⟨i + 1, by omega, rfl, by go_num, rfl⟩
        · obtain rfl : n = i := by omega
          go_wp2
          go_ret
          exact ⟨rfl, below_of hs8⟩
end Go.Proofs.Ytfkeplcalmlojaa
