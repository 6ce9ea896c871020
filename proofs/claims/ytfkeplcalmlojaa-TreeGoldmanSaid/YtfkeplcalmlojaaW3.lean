/- slices.Max and tree.Center, on trees that Check lets by. -/
import Derived.Test.YtfkeplcalmlojaaW2
namespace Go.Proofs.Ytfkeplcalmlojaa
open Go.RowKit TreeM

def IsMax (xs : List Int) (m : Int) : Prop := m ∈ xs ∧ ∀ x ∈ xs, x ≤ m
def MaxPost (xs : List Int) (w : World) (e : Ending) (w' : World) : Prop := w = w' ∧ ∃ m, e = .returned (.int .i64 m) ∧ IsMax xs m

theorem isMax_snoc {xs : List Int} {k : Nat} {x : Int} (h : xs[k]? = some x) : xs.take (k + 1) = xs.take k ++ [x] := by
  obtain ⟨hk, he⟩ := List.getElem?_eq_some_iff.1 h
  rw [List.take_succ_eq_append_getElem hk, he]

set_option maxHeartbeats 1000000 in
theorem Max_any (A : Option Addr) (cap : Nat) (xs : List Int) (w : World) (h : IntsAt w A xs) (hpos : 0 < xs.length) (hlen : xs.length ≤ 1000000000) :
    Calls Try.prog 14 #[.slice A xs.length cap] w (MaxPost xs w) := by
  obtain ⟨b, off, rfl, hb, hc⟩ := h 0 hpos
  obtain ⟨x0, hx0⟩ : ∃ x, xs[0]? = some x := ⟨xs[0], List.getElem?_eq_getElem hpos⟩
  have c0 := hc 0 x0 hx0
  rw [Nat.add_zero] at c0
  have Hx0 := Lib.hid hx0
  have Hc := Lib.hid hc
  clear hx0 hc
  have hp1 : (0 : Int) < (xs.length : Int) := by omega
  go_enter Try.func14, Try.ntmps14
  go_wp2
  go_loopg [3, 4] (xs.length - 1) (fun g m i wr => ∃ (k : Nat) (y : Int), k ≤ xs.length ∧ 1 ≤ k ∧ g = xs.length - k ∧ i = .int .i64 k ∧ m = .int .i64 y ∧ w = wr ∧ Hid (IsMax (xs.take k) y))
  case atStart =>
    refine ⟨1, x0, by omega, Nat.le_refl _, rfl, rfl, rfl, rfl, Lib.hid ?_⟩
    rw [List.take_one, List.head?_eq_getElem?, Hx0.out]; exact ⟨by simp, by simp⟩
  case round =>
    clear c0
    obtain ⟨k, y, hk, hk1, rfl, rfl, rfl, rfl, hm⟩ := hrel
    by_cases hkl : k < xs.length
    · have hkz : (k : Int) < (xs.length : Int) := by omega
      obtain ⟨x, hx⟩ : ∃ x, xs[k]? = some x := ⟨xs[k], List.getElem?_eq_getElem hkl⟩
      have c0 := Hc.out k x hx
      have Hx := Lib.hid hx
      clear hx
      by_cases hyx : y < x
      · go_wp2
        go_roundg (xs.length - (k + 1))
        case measure => go_light; omega
        case rel =>
          go_light
          refine ⟨k + 1, x, by omega, by omega, rfl, by go_num, rfl, rfl, Lib.hid ?_⟩
          rw [isMax_snoc Hx.out]
          exact ⟨by simp, fun z hz => by
            rcases List.mem_append.1 hz with hz | hz
            · have := hm.out.2 z hz; omega
            · simp at hz; omega⟩
      · go_wp2
        go_roundg (xs.length - (k + 1))
        case measure => go_light; omega
        case rel =>
          go_light
          refine ⟨k + 1, y, by omega, by omega, rfl, by go_num, rfl, rfl, Lib.hid ?_⟩
          rw [isMax_snoc Hx.out]
          exact ⟨List.mem_append_left _ hm.out.1, fun z hz => by
            rcases List.mem_append.1 hz with hz | hz
            · exact hm.out.2 z hz
            · simp at hz; omega⟩
    · obtain rfl : xs.length = k := by omega
      go_wp2
      go_ret
      refine ⟨rfl, y, rfl, ?_⟩
      have := hm.out
      rwa [List.take_of_length_le (Nat.le_refl _)] at this

/-! Center -/
def ecc (n : Nat) (es : List Ed) (k : Nat) (r : Int) : Prop := IsMax (frm n es k) r
theorem ecc_nonneg {n : Nat} {es : List Ed} {k : Nat} {r : Int} (hg : TreeM.Good n es) (hk : k < n) (h : ecc n es k r) : 0 ≤ r := by
  refine h.2 0 ?_
  have h0 := (frm_base n es hg k hk).1
  have hl := (frm_closed n es hg k).2
  rw [List.getD_eq_getElem?_getD, List.getElem?_eq_getElem (by omega)] at h0
  simp only [Option.getD_some] at h0
  rw [← h0]; exact List.getElem_mem _
/-- the best so far -/
def CenterTo (n : Nat) (es : List Ed) (k : Nat) (a best : Int) : Prop :=
  (k = 0 ∧ a = 0 ∧ best = -1) ∨ (∃ at' : Nat, a = at' ∧ at' < k ∧ ecc n es at' best ∧ 0 ≤ best ∧ ∀ j, j < k → ∃ m, ecc n es j m ∧ best ≤ m)
theorem CenterTo.take {n : Nat} {es : List Ed} {k : Nat} {a best m : Int} (h : CenterTo n es k a best) (hm : ecc n es k m) (h0 : 0 ≤ m) (hlt : best < 0 ∨ m < best) : CenterTo n es (k + 1) k m := by
  refine .inr ⟨k, rfl, by omega, hm, h0, fun j hj => ?_⟩
  rcases h with ⟨rfl, _, _⟩ | ⟨a', _, _, _, hb, hj'⟩
  · obtain rfl : j = 0 := by omega
    exact ⟨m, hm, Int.le_refl _⟩
  · by_cases hjk : j = k
    · subst hjk; exact ⟨m, hm, Int.le_refl _⟩
    · obtain ⟨m', h1, h2⟩ := hj' j (by omega)
      exact ⟨m', h1, by omega⟩
theorem CenterTo.keep {n : Nat} {es : List Ed} {k : Nat} {a best m : Int} (h : CenterTo n es k a best) (hm : ecc n es k m) (h1 : 0 ≤ best) (h2 : best ≤ m) : CenterTo n es (k + 1) a best := by
  rcases h with ⟨rfl, _, h3⟩ | ⟨a', ha, hlt, he, hb, hj'⟩
  · omega
  · refine .inr ⟨a', ha, by omega, he, hb, fun j hj => ?_⟩
    by_cases hjk : j = k
    · subst hjk; exact ⟨m, hm, h2⟩
    · exact hj' j (by omega)

def CenterPost (n : Nat) (es : List Ed) (w : World) (e : Ending) (w' : World) : Prop :=
  w.Since w.heap.size w' ∧ ∃ a r : Int, e = .returned (.tuple #[.int .i64 a, .int .i64 r, .nilIface]) ∧ CenterTo n es n a r

set_option maxHeartbeats 2000000 in
theorem Center_ok {n : Nat} {A : Option Addr} {cap : Nat} {rs : List RE} {w : World} (h : RawAt w A rs) (hlen : rs.length ≤ 100) (t : TreeOk n rs) :
    Calls Try.prog 5 #[.int .i64 n, .slice A rs.length cap] w (CenterPost n (rs.map RE.ed) w) := by
  have hn1 : 1 ≤ n := by have := t.lo; omega
  have hn2 : n ≤ 60 := by have := t.hi; omega
  go_enter Try.func5, Try.ntmps5
  go_wp2_with fail
  refine (Check_ok h (by omega) t).mono ?_
  rintro e w0 ⟨rfl, hs0⟩
  go_wp2
  go_loopg [8, 9, 19] n (fun g a b i wr => ∃ (k : Nat) (at' best : Int), k ≤ n ∧ g = n - k ∧ i = .int .i64 k ∧ a = .int .i64 at' ∧ b = .int .i64 best ∧ w.Since w.heap.size wr ∧ Hid (CenterTo n (rs.map RE.ed) k at' best))
  case atStart => exact ⟨0, 0, -1, Nat.zero_le _, rfl, rfl, rfl, rfl, hs0, Lib.hid (.inl ⟨rfl, rfl, rfl⟩)⟩
  case round =>
    clear hs0
    obtain ⟨k, a, best, hk, rfl, rfl, rfl, rfl, hs, hC⟩ := hrel
    by_cases hkn : k < n
    · have hkz : (k : Int) < (n : Int) := by omega
      have c1 := from_any n A cap (rs.map RE.ed) k wr ((h.since (Nat.le_refl _) hs).eds t.ok) (by rw [List.length_map]; omega) hn2 hkn (good_of t.ok) (max_of t.ok)
      rw [List.length_map] at c1
      have C1 := Lib.hid c1
      clear c1
      go_wp2_with fail
      refine C1.out.mono ?_
      rintro e w1 ⟨rfl, hF⟩
      have hfl := frm_len t.ok k
      have c2 := Max_any (some ⟨wr.heap.size, 0, none⟩) n (frm n (rs.map RE.ed) k) w1 (hF.ints hfl) (by omega) (by omega)
      rw [hfl] at c2
      have C2 := Lib.hid c2
      clear c2 hfl
      have hs1 := since_join hs hF.since
      go_wp2_with fail
      refine C2.out.mono ?_
      rintro e w' ⟨rfl, m, rfl, hm⟩
      have hm0 := ecc_nonneg (good_of t.ok) hkn hm
      have Hm := Lib.hid hm
      clear hm
      by_cases b1 : best < 0
      · go_wp2
        go_roundg (n - (k + 1))
        case measure => go_light; omega
        case rel =>
          go_light
          exact ⟨k + 1, k, m, by omega, rfl, by go_num, rfl, rfl, hs1, Lib.hid (hC.out.take Hm.out hm0 (.inl b1))⟩
      · have b1' : 0 ≤ best := by omega
        by_cases b2 : m < best
        · go_wp2
          go_roundg (n - (k + 1))
          case measure => go_light; omega
          case rel =>
            go_light
            exact ⟨k + 1, k, m, by omega, rfl, by go_num, rfl, rfl, hs1, Lib.hid (hC.out.take Hm.out hm0 (.inr b2))⟩
        · have b2' : best ≤ m := by omega
          go_wp2
          go_roundg (n - (k + 1))
          case measure => go_light; omega
          case rel =>
            go_light
            exact ⟨k + 1, a, best, by omega, rfl, by go_num, rfl, rfl, hs1, Lib.hid (hC.out.keep Hm.out b1' b2')⟩
    · obtain rfl : n = k := by omega
      go_wp2
      go_ret3
      exact ⟨hs, a, best, rfl, hC.out⟩
end Go.Proofs.Ytfkeplcalmlojaa
