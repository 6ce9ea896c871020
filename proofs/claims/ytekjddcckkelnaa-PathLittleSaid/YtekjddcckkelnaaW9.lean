/- path: the statements' own example (served) holds. -/
import Derived.Test.YtekjddcckkelnaaW8
namespace Go.Proofs.Ytekjddcckkelnaa
open Go.RowKit PathM

def js0 : List Job := [(0, 5, 0), (1, 2, 0)]
theorem js0_ok : JobsOk js0 := by
  refine ⟨by decide, fun x hx => ?_, fun i h1 h2 => ?_⟩
  · simp [js0] at hx
    rcases hx with rfl | rfl <;> exact ⟨by decide, by decide, by decide, by decide⟩
  · have : i < 2 := h2
    obtain rfl : i = 1 := by omega
    decide
theorem at0 : atJ js0 0 = 0 := rfl
theorem at1 : atJ js0 1 = 1 := rfl
/-- the states that Run comes to -/
structure Is (s : St) (next : Nat) (now : Int) (wait : List Nat) (out : Pieces) (l0 l1 : Int) : Prop where
  next : s.next = next
  now : s.now = now
  wait : s.wait = wait
  out : s.out = out
  l0 : s.left 0 = l0
  l1 : s.left 1 = l1
def Some4 (s : St) : Prop := Is s 0 0 [] [] 5 2 ∨ Is s 1 1 [0] [(0, 0, 1)] 4 2 ∨ Is s 2 3 [0] [(0, 0, 1), (1, 1, 3)] 4 0 ∨ Is s 2 7 [] [(0, 0, 1), (1, 1, 3), (0, 3, 7)] 0 0
theorem some4_step {s : St} (h : Some4 s) {k on : Nat} {a b : Int} (hs : Step (atJ js0) js0.length (preB 6) (BestOf 6 js0) s k on a b) : Some4 (after s k on a b) := by
  obtain ⟨hm, ha, hk, hc, hst, hon, hch, _, hb⟩ := hs
  have hp : preB 6 = true := rfl
  have hl2 : js0.length = 2 := rfl
  rw [hl2] at hm hk hst hb
  rw [hp] at hb
  have hbest := hch (.inr hp)
  have hrk : ∀ i, rk 6 js0 s.left i = s.left i := fun i => by unfold rk; simp
  rcases h with ⟨e1, e2, e3, e4, e5, e6⟩ | ⟨e1, e2, e3, e4, e5, e6⟩ | ⟨e1, e2, e3, e4, e5, e6⟩ | ⟨e1, e2, e3, e4, e5, e6⟩
  · rw [e1] at hm ha hk hc hst hon hbest hb
    rw [e3] at ha hon hbest
    rw [if_pos rfl, e2, at0] at ha
    have hk1 : k = 1 := by
      apply Classical.byContradiction
      intro hne
      by_cases h0 : k = 0
      · have := hst (by omega); rw [h0] at this; rw [at0] at this; omega
      · have := hc 1 (by omega) (by omega); rw [at1] at this; omega
    subst hk1
    have hon0 : on = 0 := by simpa using hon
    subst hon0
    have hb1 : b = 1 := by rw [hb, if_pos ⟨rfl, by omega⟩, ha, e5, show atJ js0 (0 + 1) = 1 from rfl]; decide
    have ha0 : a = 0 := by rw [ha]; decide
    subst hb1 ha0
    have hnz : ¬ s.left 0 - (1 - 0) = 0 := by rw [e5]; omega
    right; left
    refine ⟨by show s.next + 1 = 1; omega, rfl, ?_, by show push s.out 0 0 1 = _; rw [e4]; rfl, by show upd s.left 0 (s.left 0 - (1 - 0)) 0 = 4; unfold upd; rw [if_pos rfl, e5]; omega, by show upd s.left 0 (s.left 0 - (1 - 0)) 1 = 2; unfold upd; rw [if_neg (by omega), e6]⟩
    show (if s.left 0 - (1 - 0) = 0 then _ else s.wait ++ List.range' s.next 1) = [0]
    rw [if_neg hnz, e3, e1]; rfl
  · rw [e1] at hm ha hk hc hst hon hbest hb
    rw [e3] at ha hon hbest
    rw [if_neg (by simp), e2] at ha
    have hk1 : k = 1 := by
      apply Classical.byContradiction
      intro hne
      have h0 : k = 0 := by omega
      have := hst (by omega); rw [h0] at this; rw [at1] at this; omega
    subst hk1
    have hw : [0] ++ List.range' 1 1 = [0, 1] := rfl
    rw [hw] at hon hbest
    have hle := hbest.least 1 (by simp)
    rw [hrk, hrk] at hle
    have hon1 : on = 1 := by
      simp at hon
      rcases hon with h | h
      · subst h; rw [e5, e6] at hle; omega
      · exact h
    subst hon1
    have hb3 : b = 3 := by rw [hb, if_neg (by omega), ha, e6]; rfl
    subst hb3 ha
    have hz : s.left 1 - (3 - 1) = 0 := by rw [e6]; omega
    right; right; left
    refine ⟨by show s.next + 1 = 2; omega, rfl, ?_, by show push s.out 1 1 3 = _; rw [e4]; rfl, by show upd s.left 1 (s.left 1 - (3 - 1)) 0 = 4; unfold upd; rw [if_neg (by omega), e5], by show upd s.left 1 (s.left 1 - (3 - 1)) 1 = 0; unfold upd; rw [if_pos rfl, e6]; omega⟩
    show (if s.left 1 - (3 - 1) = 0 then (s.wait ++ List.range' s.next 1).filter (fun i => !(i == 1)) else _) = [0]
    rw [if_pos hz, e3, e1]; rfl
  · rw [e1] at hm ha hk hc hst hon hbest hb
    rw [e3] at ha hon hbest
    rw [if_neg (by simp), e2] at ha
    obtain rfl : k = 0 := by omega
    have hon0 : on = 0 := by simpa using hon
    subst hon0
    have hb7 : b = 7 := by rw [hb, if_neg (by omega), ha, e5]; rfl
    subst hb7 ha
    have hz : s.left 0 - (7 - 3) = 0 := by rw [e5]; omega
    right; right; right
    refine ⟨by show s.next + 0 = 2; omega, rfl, ?_, by show push s.out 0 3 7 = _; rw [e4]; rfl, by show upd s.left 0 (s.left 0 - (7 - 3)) 0 = 0; unfold upd; rw [if_pos rfl, e5]; omega, by show upd s.left 0 (s.left 0 - (7 - 3)) 1 = 0; unfold upd; rw [if_neg (by omega), e6]⟩
    show (if s.left 0 - (7 - 3) = 0 then (s.wait ++ List.range' s.next 0).filter (fun i => !(i == 0)) else _) = []
    rw [if_pos hz, e3]; rfl
  · exfalso
    rcases hm with hm | hm
    · omega
    · exact hm e3
theorem some4_all {s : St} (h : PathM.Reach (atJ js0) (szJ js0) js0.length (preB 6) (BestOf 6 js0) s) : Some4 s := by
  induction h with
  | start => exact .inl ⟨rfl, rfl, rfl, rfl, rfl, rfl⟩
  | step _ hs ih => exact some4_step ih hs
theorem some4_end {s : St} (h : PathM.Reach (atJ js0) (szJ js0) js0.length (preB 6) (BestOf 6 js0) s) (he : ¬ (s.next < js0.length ∨ s.wait ≠ [])) : s.out = [(0, 0, 1), (1, 1, 3), (0, 3, 7)] := by
  rcases some4_all h with e | e | e | e
  · exact absurd (.inl (by rw [e.next]; decide)) he
  · exact absurd (.inl (by rw [e.next]; decide)) he
  · exact absurd (.inr (by rw [e.wait]; simp)) he
  · exact e.out
theorem js0_at (w : World) : JobsAt (w.alloc (Obj.cells #[Value.int .i64 0, Value.int .i64 5, Value.int .i64 0, Value.int .i64 1, Value.int .i64 2, Value.int .i64 0] 33)) (some ⟨w.heap.size, 0, none⟩) js0 := fun _ _ => by
  refine ⟨w.heap.size, 0, rfl, by simp, fun k x hx => ?_⟩
  match k with
  | 0 => simp [js0] at hx; subst hx; simp
  | 1 => simp [js0] at hx; subst hx; simp
  | k + 2 => simp [js0] at hx
set_option maxHeartbeats 4000000 in
theorem served_any (w : World) : Calls Try.prog 9 #[] w (TruePost w) := by
  go_enter Try.func9, Try.ntmps9
  go_wp2_with fail
  refine (Waits_ok (some ⟨w.heap.size, 0, none⟩) 2 js0 _ (js0_at w) js0_ok).mono ?_
  rintro e w1 ⟨hs1, v1, rfl, hown1⟩
  have hs0 : w.Since w.heap.size w1 := since_join ((World.Since.refl _ _).alloc (Nat.le_refl _) (Obj.cells #[Value.int .i64 0, Value.int .i64 5, Value.int .i64 0, Value.int .i64 1, Value.int .i64 2, Value.int .i64 0] 33)) hs1
  have hjA := js0_at w1
  have hown2 := own_since' hown1 ((World.Since.refl _ _).alloc (Nat.le_refl _) (Obj.cells #[Value.int .i64 0, Value.int .i64 5, Value.int .i64 0, Value.int .i64 1, Value.int .i64 2, Value.int .i64 0] 33))
  have hsA := hs0.alloc hs0.size (Obj.cells #[Value.int .i64 0, Value.int .i64 5, Value.int .i64 0, Value.int .i64 1, Value.int .i64 2, Value.int .i64 0] 33)
  have HC := Lib.hid (Run_ok (some ⟨w1.heap.size, 0, none⟩) 2 js0 6 _ hjA js0_ok (by omega) (by omega))
  clear hs1 hown1 hjA hs0
  go_wp2_with fail
  refine HC.out.mono ?_
  rintro e w2 ⟨hs2, s, v2, hR, he, rfl, hown3⟩
  have hout := some4_end hR he
  have hs3 := since_join hsA hs2
  have hown4 := own_since' hown2 hs2
  obtain ⟨g1, cap1, hv1, _, _, _, _, hc1, _⟩ := own_at hown4 (by decide)
  rw [hout] at hown3
  obtain ⟨g2, cap2, hv2, _, _, _, _, hc2, _⟩ := own_at hown3 (by decide)
  subst hv1 hv2
  have k1 : w2.cell? ⟨g1, 1, none⟩ = some (.int .i64 4) := hc1 1 _ rfl
  have k2 : w2.cell? ⟨g2, 6, none⟩ = some (.int .i64 0) := hc2 6 _ rfl
  have hl1 : js0.length = 2 := rfl
  have hl2 : [((0 : Nat), (0 : Int), (1 : Int)), (1, 1, 3), (0, 3, 7)].length = 3 := rfl
  rw [hl1, hl2]
  clear hc1 hc2 hown4 hown3 hown2 hs2 hR he hl1 hl2 hout hsA
  go_wp2
  go_ret
  exact ⟨rfl, hs3⟩
end Go.Proofs.Ytekjddcckkelnaa
