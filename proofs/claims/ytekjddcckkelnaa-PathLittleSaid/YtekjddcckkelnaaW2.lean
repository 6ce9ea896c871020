/- path: by what a job that waits goes: rank, cmp.Compare, cmp.Or, slices.MinFunc over it. -/
import Derived.Test.YtekjddcckkelnaaW1
namespace Go.Proofs.Ytekjddcckkelnaa
open Go.RowKit PathM

theorem isNaN_any (x : Int) (w : World) : Calls Try.prog 23 #[.int .i64 x] w fun e w' => e = .returned (.bool false) ∧ w = w' := by
  have hb : (x != x) = false := by simp
  go_enter Try.func23, Try.ntmps23
  go_wp2
  go_ret
  exact ⟨rfl, rfl⟩
/-- cmp.Compare -/
def cmp (a b : Int) : Int := if a < b then -1 else if b < a then 1 else 0
theorem Compare_any (a b : Int) (w : World) : Calls Try.prog 18 #[.int .i64 a, .int .i64 b] w fun e w' => e = .returned (.int .i64 (cmp a b)) ∧ w = w' := by
  obtain ⟨r, hr⟩ : ∃ r, r = cmp a b := ⟨_, rfl⟩
  rw [← hr]
  by_cases h1 : a < b
  · obtain rfl : r = -1 := by rw [hr]; unfold cmp; rw [if_pos h1]
    clear hr
    go_enter Try.func18, Try.ntmps18
    go_wp2_with fail
    refine (isNaN_any _ _).mono ?_
    rintro e w' ⟨rfl, rfl⟩
    go_wp2_with fail
    refine (isNaN_any _ _).mono ?_
    rintro e w' ⟨rfl, rfl⟩
    go_wp2
    go_ret
    exact ⟨rfl, rfl⟩
  have h1' : b ≤ a := by omega
  by_cases h2 : b < a
  · obtain rfl : r = 1 := by rw [hr]; unfold cmp; rw [if_neg h1, if_pos h2]
    clear hr h1
    go_enter Try.func18, Try.ntmps18
    go_wp2_with fail
    refine (isNaN_any _ _).mono ?_
    rintro e w' ⟨rfl, rfl⟩
    go_wp2_with fail
    refine (isNaN_any _ _).mono ?_
    rintro e w' ⟨rfl, rfl⟩
    go_wp2
    go_ret
    exact ⟨rfl, rfl⟩
  have h2' : a ≤ b := by omega
  obtain rfl : r = 0 := by rw [hr]; unfold cmp; rw [if_neg h1, if_neg h2]
  clear hr h1 h2
  go_enter Try.func18, Try.ntmps18
  go_wp2_with fail
  refine (isNaN_any _ _).mono ?_
  rintro e w' ⟨rfl, rfl⟩
  go_wp2_with fail
  refine (isNaN_any _ _).mono ?_
  rintro e w' ⟨rfl, rfl⟩
  go_wp2
  go_ret
  exact ⟨rfl, rfl⟩
/-- by what one goes -/
def rk (rule : Int) (js : List Job) (left : Nat → Int) (i : Nat) : Int :=
  if rule = 2 then -(i : Int) else if rule = 3 then szJ js i else if rule = 4 ∨ rule = 5 then clJ js i else if rule = 6 then left i else i
set_option maxHeartbeats 1000000 in
theorem rank_any (rule : Int) (A : Option Addr) (cap : Nat) (js : List Job) (bl cl : Nat) (left : Nat → Int) (i : Nat) (w : World) (h : JobsAt w A js) (hl : w.rowIs bl 3 cl (fun j => .int .i64 (left j))) (hi : i < js.length) (hic : i < cl) (h1 : 1 ≤ rule) (h6 : rule ≤ 6) (hlen : js.length ≤ 60) :
    Calls Try.prog 19 #[.int .i64 rule, .slice A js.length cap, .slice (some ⟨bl, 0, none⟩) cl cl, .int .i64 i] w fun e w' => e = .returned (.int .i64 (rk rule js left i)) ∧ w = w' := by
  have hiz : (i : Int) < (js.length : Int) := by omega
  have hiz2 : (i : Int) < (cl : Int) := by omega
  obtain ⟨b, off, rfl, hb, hc⟩ := h i hi
  obtain ⟨x, hx⟩ : ∃ x, js[i]? = some x := ⟨js[i], List.getElem?_eq_getElem hi⟩
  obtain ⟨c0, c1, c2⟩ := hc i x hx
  have g := hl.cell hic
  have es : szJ js i = x.2.1 := by unfold szJ; rw [List.getD_eq_getElem?_getD, hx]; rfl
  have ec : clJ js i = x.2.2 := by unfold clJ; rw [List.getD_eq_getElem?_getD, hx]; rfl
  have Hr : Hid (rk rule js left i = if rule = 2 then -(i : Int) else if rule = 3 then x.2.1 else if rule = 4 ∨ rule = 5 then x.2.2 else if rule = 6 then left i else i) := Lib.hid (by unfold rk; rw [es, ec])
  clear hx hc es ec hl h
  obtain ⟨x1, x2, x3⟩ := x
  simp only at c0 c1 c2
  have hr : rule = 1 ∨ rule = 2 ∨ rule = 3 ∨ rule = 4 ∨ rule = 5 ∨ rule = 6 := by omega
  clear h1 h6
  rcases hr with rfl | rfl | rfl | rfl | rfl | rfl
  all_goals
    go_enter Try.func19, Try.ntmps19
    go_wp2
    go_ret
    refine ⟨?_, rfl⟩
    rw [Hr.out]
    rfl
end Go.Proofs.Ytekjddcckkelnaa
