/- line: the comparisons; sorted. -/
import Derived.Test.YtimbkogdlmkdgaaW2
namespace Go.Proofs.Ytimbkogdlmkdgaa
open Go.RowKit PermM StabM LineM

def triV (x : Tri) : Value := .agg #[.int .i64 x.1, .int .i64 x.2.1, .int .i64 x.2.2]
/-- a comparison of tasks that answers lf -/
def LessOk (g : FuncId) (lf : Tri → Tri → Int) : Prop := ∀ (W : World) (x y : Tri), taskOk x → taskOk y → Calls Try.prog g #[triV x, triV y] W fun e w' => e = .returned (.int .i64 (lf x y)) ∧ W.Since W.heap.size w'
theorem isNaN_any (x : Int) (w : World) : Calls Try.prog 27 #[.int .i64 x] w fun e w' => e = .returned (.bool false) ∧ w = w' := by
  have hb : (x != x) = false := by simp
  go_enter Try.func27, Try.ntmps27
  go_wp2
  go_ret
  exact ⟨rfl, rfl⟩
/-- cmp.Compare -/
def cmp3 (a b : Int) : Int := if a < b then -1 else if b < a then 1 else 0
theorem Compare_any (a b : Int) (w : World) : Calls Try.prog 19 #[.int .i64 a, .int .i64 b] w fun e w' => e = .returned (.int .i64 (cmp3 a b)) ∧ w = w' := by
  obtain ⟨r, hr⟩ : ∃ r, r = cmp3 a b := ⟨_, rfl⟩
  rw [← hr]
  by_cases h1 : a < b
  · obtain rfl : r = -1 := by rw [hr]; unfold cmp3; rw [if_pos h1]
    clear hr
    go_enter Try.func19, Try.ntmps19
    go_wp2_with fail
    refine (isNaN_any _ _).mono ?_
    rintro e w' ⟨rfl, rfl⟩
    go_wp2_with fail
    refine (isNaN_any _ _).mono ?_
    rintro e w' ⟨rfl, rfl⟩
    go_wp2
    go_ret
    exact ⟨rfl, rfl⟩
  have h1' : b ≤ a := by omega
  by_cases h2 : b < a
  · obtain rfl : r = 1 := by rw [hr]; unfold cmp3; rw [if_neg h1, if_pos h2]
    clear hr h1
    go_enter Try.func19, Try.ntmps19
    go_wp2_with fail
    refine (isNaN_any _ _).mono ?_
    rintro e w' ⟨rfl, rfl⟩
    go_wp2_with fail
    refine (isNaN_any _ _).mono ?_
    rintro e w' ⟨rfl, rfl⟩
    go_wp2
    go_ret
    exact ⟨rfl, rfl⟩
  have h2' : a ≤ b := by omega
  obtain rfl : r = 0 := by rw [hr]; unfold cmp3; rw [if_neg h1, if_neg h2]
  clear hr h1 h2
  go_enter Try.func19, Try.ntmps19
  go_wp2_with fail
  refine (isNaN_any _ _).mono ?_
  rintro e w' ⟨rfl, rfl⟩
  go_wp2_with fail
  refine (isNaN_any _ _).mono ?_
  rintro e w' ⟨rfl, rfl⟩
  go_wp2
  go_ret
  exact ⟨rfl, rfl⟩
def jackF (x y : Tri) : Int := x.2.2 - y.2.2
theorem jack_less : LessOk 22 jackF := by
  intro W x y hx hy
  obtain ⟨x1, x2, x3⟩ := x
  obtain ⟨y1, y2, y3⟩ := y
  obtain ⟨_, _, a3⟩ := hx
  obtain ⟨_, _, b3⟩ := hy
  simp only at a3 b3
  have f1 : -1000000000 ≤ x3 - y3 := by omega
  have f2 : x3 - y3 ≤ 1000000000 := by omega
  unfold triV jackF
  go_enter Try.func22, Try.ntmps22
  go_wp2
  go_ret
  exact ⟨rfl, ((World.Since.refl _ _).alloc (Nat.le_refl _) _).alloc (by simp) _⟩
def smithF (x y : Tri) : Int := if x.1 = 0 ∨ y.1 = 0 then cmp3 (min x.1 1) (min y.1 1) else y.2.1 * x.1 - x.2.1 * y.1
theorem mul_bd {a b : Int} (ha : 0 ≤ a ∧ a ≤ 10000) (hb : 0 ≤ b ∧ b ≤ 1000000000) : 0 ≤ a * b ∧ a * b ≤ 10000000000000 := by
  refine ⟨Int.mul_nonneg ha.1 hb.1, ?_⟩
  have h1 : a * b ≤ 10000 * b := Int.mul_le_mul_of_nonneg_right ha.2 hb.1
  omega
set_option maxHeartbeats 1000000 in
theorem smith_less : LessOk 18 smithF := by
  intro W x y hx hy
  obtain ⟨x1, x2, x3⟩ := x
  obtain ⟨y1, y2, y3⟩ := y
  obtain ⟨a1, a2, _⟩ := hx
  obtain ⟨b1, b2, _⟩ := hy
  simp only at a1 a2 b1 b2
  have hr : smithF (x1, x2, x3) (y1, y2, y3) = if x1 = 0 ∨ y1 = 0 then cmp3 (min x1 1) (min y1 1) else y2 * x1 - x2 * y1 := rfl
  obtain ⟨r, hre⟩ : ∃ r, r = smithF (x1, x2, x3) (y1, y2, y3) := ⟨_, rfl⟩
  rw [← hre] at hr ⊢
  have Hr := Lib.hid hr
  clear hr hre
  unfold triV
  simp only
  have hs : W.Since W.heap.size ((W.alloc (Obj.cells #[Value.int .i64 x1, Value.int .i64 x2, Value.int .i64 x3] 41)).alloc (Obj.cells #[Value.int .i64 y1, Value.int .i64 y2, Value.int .i64 y3] 41)) := ((World.Since.refl _ _).alloc (Nat.le_refl _) _).alloc (by simp) _
  by_cases h0 : x1 = 0
  · have hb : (x1 == 0) = true := by simp [h0]
    have hm : min x1 1 = x1 := by omega
    have H0 := Lib.hid h0
    have Hm := Lib.hid hm
    have hlt : x1 < 1 := by omega
    clear h0 hm
    by_cases hy0 : y1 ≤ 1
    · have hmy : min y1 1 = y1 := by omega
      have Hmy := Lib.hid hmy
      clear hmy
      go_enter Try.func18, Try.ntmps18
      go_wp2_with fail
      refine (Compare_any _ _ _).mono ?_
      rintro e w' ⟨rfl, rfl⟩
      go_wp2
      go_ret
      exact ⟨by rw [Hr.out, if_pos (.inl H0.out), Hm.out, Hmy.out]; rfl, hs⟩
    · have hmy : min y1 1 = 1 := by omega
      have Hmy := Lib.hid hmy
      have hy1' : 1 < y1 := by omega
      clear hmy hy0
      go_enter Try.func18, Try.ntmps18
      go_wp2_with fail
      refine (Compare_any _ _ _).mono ?_
      rintro e w' ⟨rfl, rfl⟩
      go_wp2
      go_ret
      exact ⟨by rw [Hr.out, if_pos (.inl H0.out), Hm.out, Hmy.out]; rfl, hs⟩
  · have hb : (x1 == 0) = false := by simp [h0]
    have hx1 : 1 ≤ x1 := by omega
    by_cases h0y : y1 = 0
    · have hby : (y1 == 0) = true := by simp [h0y]
      have hmy : min y1 1 = y1 := by omega
      have H0 := Lib.hid h0y
      have Hmy := Lib.hid hmy
      have hlt : y1 < 1 := by omega
      clear h0y hmy h0
      by_cases hx2 : x1 ≤ 1
      · have hm : min x1 1 = x1 := by omega
        have Hm := Lib.hid hm
        clear hm
        go_enter Try.func18, Try.ntmps18
        go_wp2_with fail
        refine (Compare_any _ _ _).mono ?_
        rintro e w' ⟨rfl, rfl⟩
        go_wp2
        go_ret
        exact ⟨by rw [Hr.out, if_pos (.inr H0.out), Hm.out, Hmy.out]; rfl, hs⟩
      · have hm : min x1 1 = 1 := by omega
        have Hm := Lib.hid hm
        have hx3 : 1 < x1 := by omega
        clear hm hx2
        go_enter Try.func18, Try.ntmps18
        go_wp2_with fail
        refine (Compare_any _ _ _).mono ?_
        rintro e w' ⟨rfl, rfl⟩
        go_wp2
        go_ret
        exact ⟨by rw [Hr.out, if_pos (.inr H0.out), Hm.out, Hmy.out]; rfl, hs⟩
    · have hby : (y1 == 0) = false := by simp [h0y]
      have m1 := mul_bd b2 a1
      have m2 := mul_bd a2 b1
      have hfin : r = y2 * x1 - x2 * y1 := by rw [Hr.out, if_neg (fun h => by rcases h with h | h; exact h0 h; exact h0y h)]
      have Hfin := Lib.hid hfin
      have n1 : -10000000000000 ≤ y2 * x1 - x2 * y1 := by omega
      have n2 : y2 * x1 - x2 * y1 ≤ 10000000000000 := by omega
      clear hfin h0 h0y
      go_enter Try.func18, Try.ntmps18
      go_wp2
      go_ret
      exact ⟨by rw [Hfin.out]; rfl, hs⟩
/-- what sorted compares by -/
def cfL (lf : Tri → Tri → Int) (js : List Tri) (x y : Nat) : Int := lf (js.getD x (0, 0, 0)) (js.getD y (0, 0, 0))
theorem tri_ok {js : List Tri} (t : TasksOk js) {k : Nat} {x : Tri} (h : js[k]? = some x) : js.getD k (0, 0, 0) = x ∧ taskOk x := by
  refine ⟨by rw [List.getD_eq_getElem?_getD, h]; rfl, t.each x (List.mem_of_getElem? h)⟩
set_option maxHeartbeats 1000000 in
/-- sorted's own comparison -/
theorem cmpL_any {lf : Tri → Tri → Int} {gl : FuncId} (eg : ∀ args w, (callFunc gl args).run Try.prog w = .ok (.enter gl args) w) (hL : LessOk gl lf) {A : Option Addr} {cap : Nat} {js : List Tri} (t : TasksOk js) {p2 p3 : Nat} {W : World} (h : TriAt W A js)
    (k3 : W.cell? ⟨p3, 0, none⟩ = some (.func (.func gl) #[] #[])) (k2 : W.cell? ⟨p2, 0, none⟩ = some (.slice A js.length cap)) {x y : Nat} (hx : x < js.length) (hy : y < js.length) :
    Calls Try.prog 26 #[.int .i64 (x : Nat), .int .i64 (y : Nat), .pointer (some ⟨p3, 0, none⟩), .pointer (some ⟨p2, 0, none⟩)] W fun e w' => e = .returned (.int .i64 (cfL lf js x y)) ∧ W.Since W.heap.size w' := by
  obtain ⟨b, off, rfl, hb, hc⟩ := h x hx
  obtain ⟨u, hu⟩ : ∃ u, js[x]? = some u := ⟨js[x], List.getElem?_eq_getElem hx⟩
  obtain ⟨v, hv⟩ : ∃ v, js[y]? = some v := ⟨js[y], List.getElem?_eq_getElem hy⟩
  obtain ⟨c0, c1, c2⟩ := hc x u hu
  obtain ⟨d0, d1, d2⟩ := hc y v hv
  obtain ⟨u1, u2⟩ := tri_ok t hu
  obtain ⟨v1, v2⟩ := tri_ok t hv
  have hxz : (x : Int) < (js.length : Int) := by omega
  have hyz : (y : Int) < (js.length : Int) := by omega
  have hcf : cfL lf js x y = lf u v := by unfold cfL; rw [u1, v1]
  have Hcf := Lib.hid hcf
  have C := Lib.hid (hL W.drew u v u2 v2)
  obtain ⟨x1, x2, x3⟩ := u
  obtain ⟨y1, y2, y3⟩ := v
  simp only at c0 c1 c2 d0 d1 d2
  unfold triV at C
  simp only at C
  clear hc hu hv u1 u2 v1 v2 hcf t hL h
  go_enter Try.func26, Try.ntmps26
  go_wp2
  refine wp_region_still_tail 9 (by kernel_rfl) (by kernel_rfl) ?_
  simp only [List.take_succ_cons, List.take_zero, List.drop_succ_cons, List.drop_zero]
  repeat still_step
  refine wpStill_nil ?_
  change wpList _ _ _ _ _ W.drew
  go_wp2_with fail
  refine C.out.mono ?_
  rintro e w5 ⟨rfl, hs5⟩
  go_wp2
  go_ret
  exact ⟨by rw [Hcf.out]; rfl, ⟨hs5.os, hs5.tape, hs5.output, hs5.size, hs5.block⟩⟩
end Go.Proofs.Ytimbkogdlmkdgaa
