/- tape: Play's errors; the law's own example (called). -/
import Derived.Test.YtpdpninbamgeiaaW9
namespace Go.Proofs.Ytpdpninbamgeiaa
open Go.RowKit HeapM

theorem tri_same {w w' : World} {A : Option Addr} {js : List Tri} (h : TriAt w A js) (hs : w.Since w.heap.size w') : TriAt w' A js := h.since (Nat.le_refl _) hs
theorem since_joinT {a w w' : World} (h : a.Since a.heap.size w) (k : w.Since w.heap.size w') : a.Since a.heap.size w' := h.trans (since_low k h.size)
def BadPost (w : World) (e : Ending) (w' : World) : Prop := w.Since w.heap.size w' ∧ ∃ k : Int, e = .returned (.tuple #[.slice none 0 0, .iface 42 (.int .i64 k)])
set_option maxHeartbeats 4000000 in
theorem Play_bad {Aj : Option Addr} {cap : Nat} {A : Int} {js : List Tri} {w : World} (hj : TriAt w Aj js) (hlen : js.length ≤ 9223372036854775807) (hb : ¬ (CallsOk js ∧ 0 ≤ A ∧ A ≤ 20)) :
    Calls Try.prog 5 #[.slice Aj js.length cap, .int .i64 A] w (BadPost w) := by
  have j1 : TriAt (w.alloc (.cells #[.slice Aj js.length cap] 22)) Aj js := hj.since (Nat.le_refl _) ((World.Since.refl w.heap.size w).alloc (Nat.le_refl _) _)
  have S1 := Lib.hid ((World.Since.refl w.heap.size w).alloc (Nat.le_refl _) (.cells #[.slice Aj js.length cap] 22))
  by_cases hok : CallsOk js
  · have C1 := Lib.hid (Check_ok (cap := cap) j1 hok)
    by_cases a0 : A < 0
    · clear hj hok j1 hb
      go_enter Try.func5, Try.ntmps5
      go_wp2_with fail
      refine C1.out.mono ?_
      rintro e w1 ⟨hs1, rfl⟩
      have S2 := Lib.hid (S1.out.trans (since_low hs1 (by simp)))
      clear hs1
      go_wp2
      go_ret2
      exact ⟨S2.out, 4, rfl⟩
    · have a1 : 20 < A := by
        by_cases a1 : 20 < A
        · exact a1
        · exact absurd ⟨hok, by omega, by omega⟩ hb
      clear hj hok j1 hb
      go_enter Try.func5, Try.ntmps5
      go_wp2_with fail
      refine C1.out.mono ?_
      rintro e w1 ⟨hs1, rfl⟩
      have S2 := Lib.hid (S1.out.trans (since_low hs1 (by simp)))
      clear hs1
      go_wp2
      go_ret2
      exact ⟨S2.out, 4, rfl⟩
  · have C1 := Lib.hid (Check_bad (cap := cap) j1 hlen hok)
    clear hj hok j1 hb
    go_enter Try.func5, Try.ntmps5
    go_wp2_with fail
    refine C1.out.mono ?_
    rintro e w1 ⟨hs1, k, rfl⟩
    have S2 := Lib.hid (S1.out.trans (since_low hs1 (by simp)))
    clear hs1
    go_wp2
    go_ret2
    exact ⟨S2.out, k, rfl⟩
/-- what Play tells -/
structure Played (w : World) (js : List Tri) (A : Nat) (g : Nat) (out : Nat → Int × Int) (w' : World) : Prop where
  since : w.Since w.heap.size w'
  own : w.heap.size ≤ g
  row : w'.rowIs g 30 (js.length * 2) (fateF out)
  reach : ∃ (nx : Nat) (wt : List Nat) (free : List Int) (T : Int), TapeM.Reach js.length A (aT js) (lO js) (pA js) ⟨[], nx, wt, free, out, T, 0⟩
theorem Play_ok2 {Aj : Option Addr} {cap A : Nat} {js : List Tri} {w : World} (hj : TriAt w Aj js) (hok : CallsOk js) (hA : A ≤ 20) :
    Calls Try.prog 5 #[.slice Aj js.length cap, .int .i64 (A : Int)] w fun e w' => ∃ (g : Nat) (out : Nat → Int × Int), e = .returned (.tuple #[.slice (some ⟨g, 0, none⟩) js.length js.length, .nilIface]) ∧ Played w js A g out w' :=
  (Play_ok hj hok hA).mono fun _ _ ⟨g, nx, wt, free, out, T, h1, h2, h3, h4, h5⟩ => ⟨g, out, h1, h2, h3, h4, nx, wt, free, T, h5⟩
def js0 : List Tri := [(0, 5, 1), (1, 1, 1)]
theorem js0_ok : CallsOk js0 := by
  refine ⟨by decide, fun x hx => ?_, fun i hi => ?_⟩
  · simp [js0] at hx
    rcases hx with rfl | rfl <;> (unfold callOk; decide)
  · have : js0.length = 2 := rfl
    obtain rfl : i = 0 := by omega
    decide
structure Two (s : TapeM.St) : Prop where
  here : 0 ∈ s.wait → s.free = [0]
  took : 0 < s.nx → 0 ∉ s.wait → (s.out 0).1 = 0
  none : s.nx = 0 → s.free = [0]
  three : s.ph = 3 → 0 ∉ s.wait
theorem two_all {s : TapeM.St} (h : TapeM.Reach js0.length 1 (aT js0) (lO js0) (pA js0) s) : Two s := by
  have hok := js0_ok.plain
  induction h with
  | start c hc => exact ⟨fun h => by simp at h, fun h => by simp at h, fun _ => rfl, fun h => by simp at h⟩
  | pop c c' nx w f o T now _ _ _ ih => exact ⟨ih.here, ih.took, ih.none, fun h => by simp at h⟩
  | arrive c nx w f o now hr _ _ ih =>
    refine ⟨fun h => ?_, fun h1 h2 => ?_, fun h => by simp at h, fun h => by simp at h⟩
    · rcases List.mem_append.1 h with h | h
      · exact ih.here h
      · simp at h
        exact ih.none h.symm
    · have h3 : 0 ∉ w := fun h => h2 (List.mem_append.2 (.inl h))
      have h4 : nx ≠ 0 := fun h => h2 (List.mem_append.2 (.inr (by simp [h])))
      exact ih.took (by show 0 < nx; omega) h3
  | arrived c nx w f o now _ _ ih => exact ⟨ih.here, ih.took, ih.none, fun h => by simp at h⟩
  | take c c' nx i w f o now a t hr ha ht _ ih =>
    have hi := TapeM.reach_inv hok hr
    have hs : (i :: w).Pairwise (· < ·) := hi.wsort
    have hil : i < nx := hi.wlt i (by simp)
    have h0 : 0 ∉ w := fun h => by have := (List.pairwise_cons.1 hs).1 0 h; omega
    refine ⟨fun h => absurd h h0, fun h1 _ => ?_, fun h => by simp only at h; omega, fun h => by simp at h⟩
    show (TapeM.upd o i ((a : Int), now) 0).1 = 0
    have hfl : f.length = 1 := hi.flen
    have hal : a < f.length := (List.getElem?_eq_some_iff.1 ha).1
    unfold TapeM.upd
    by_cases e : 0 = i
    · rw [if_pos e]
      show (a : Int) = 0
      omega
    · rw [if_neg e]
      exact ih.took h1 (fun h => by
        rcases List.mem_cons.1 h with h | h
        · exact e h
        · exact h0 h)
  | stop c nx w f o now hr hs ih =>
    have hi := TapeM.reach_inv hok hr
    refine ⟨ih.here, ih.took, ih.none, fun _ h => ?_⟩
    have h : 0 ∈ w := h
    rcases hs with hs | hs
    · rw [hs] at h; simp at h
    · have h1 : f = [0] := ih.here h
      have h2 := hs 0 (by rw [h1]; simp)
      have h3 : 0 ≤ now := hi.pos.2 (by simp)
      omega
  | clean c nx w f o now hr ih =>
    have h0 : 0 ∉ w := ih.three rfl
    refine ⟨fun h => absurd (List.mem_filter.1 h).1 h0, fun h1 _ => ?_, ih.none, fun h => by simp at h⟩
    show (if 0 ∈ w ∧ _ then _ else o 0).1 = 0
    rw [if_neg (fun h => h0 h.1)]
    exact ih.took h1 h0
theorem two_end {out : Nat → Int × Int} (h : ∃ (nx : Nat) (wt : List Nat) (free : List Int) (T : Int), TapeM.Reach js0.length 1 (aT js0) (lO js0) (pA js0) ⟨[], nx, wt, free, out, T, 0⟩) : (out 0).1 = 0 ∧ (out 1).1 = -1 ∧ (out 1).2 = 2 := by
  obtain ⟨nx, wt, free, T, h⟩ := h
  have hok := js0_ok.plain
  have hF := TapeM.reach_fair hok h
  obtain ⟨rfl, rfl⟩ := TapeM.reach_end hok h
  have h2 := two_all h
  have h3 : (out 0).1 = 0 := h2.took (by show 0 < 2; decide) (by simp)
  have e0 := hF.each 0 (by decide)
  have e1 := hF.each 1 (by decide)
  have t1 := hF.two 0 1 (by decide) (by decide) (by omega)
  have hl : js0.length = 2 := rfl
  have hi := TapeM.reach_inv hok h
  have c0 : aT js0 0 = 0 := rfl
  have c1 : aT js0 1 = 1 := rfl
  have d1 : pA js0 1 = 1 := rfl
  have l0 : lO js0 0 = 5 := rfl
  rcases hi.done 1 (by show 1 < 2; decide) (by simp) with ⟨q1, q2⟩ | ⟨a, t, q1, q2, q3, q4, q5, q6⟩
  · simp only at q1 q2
    exact ⟨h3, q1, by omega⟩
  · simp only at q1 q3 q4
    have := t1.2 (by omega)
    omega
theorem js0_at (w : World) : TriAt (w.alloc (Obj.cells #[Value.int .i64 0, Value.int .i64 5, Value.int .i64 1, Value.int .i64 1, Value.int .i64 1, Value.int .i64 1] 32)) (some ⟨w.heap.size, 0, none⟩) js0 := fun _ _ => by
  refine ⟨w.heap.size, 0, rfl, by simp, fun k x hx => ?_⟩
  match k with
  | 0 => simp [js0] at hx; subst hx; simp
  | 1 => simp [js0] at hx; subst hx; simp
  | k + 2 => simp [js0] at hx
def TruePost (w : World) (e : Ending) (w' : World) : Prop := e = .returned (.bool true) ∧ w.Since w.heap.size w'
set_option maxHeartbeats 4000000 in
theorem called_any (w : World) : Calls Try.prog 6 #[] w (TruePost w) := by
  have HC := Lib.hid (Play_ok2 (cap := 2) (A := 1) (js0_at w) js0_ok (by omega))
  go_enter Try.func6, Try.ntmps6
  go_wp2_with fail
  refine HC.out.mono ?_
  rintro e w1 ⟨g, out, rfl, hp⟩
  have hs0 : w.Since w.heap.size w1 := since_joinT ((World.Since.refl _ _).alloc (Nat.le_refl _) (Obj.cells #[Value.int .i64 0, Value.int .i64 5, Value.int .i64 1, Value.int .i64 1, Value.int .i64 1, Value.int .i64 1] 32)) hp.since
  obtain ⟨o1, o2, o3⟩ := two_end hp.reach
  have hl : js0.length = 2 := rfl
  have r0 := hp.row.cell (i := 0) (by decide)
  have r1 := hp.row.cell (i := 2) (by decide)
  have r2 := hp.row.cell (i := 3) (by decide)
  rw [show fateF out 0 = .int .i64 0 by show Value.int .i64 _ = _; simp [o1]] at r0
  rw [show fateF out 2 = .int .i64 (-1) by show Value.int .i64 _ = _; simp [o2]] at r1
  rw [show fateF out 3 = .int .i64 2 by show Value.int .i64 _ = _; simp [o3]] at r2
  rw [hl]
  clear HC hp o1 o2 o3 hl
  go_wp2
  go_ret
  exact ⟨rfl, hs0⟩
end Go.Proofs.Ytpdpninbamgeiaa
