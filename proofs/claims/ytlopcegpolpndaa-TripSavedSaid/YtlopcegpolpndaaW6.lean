/- trip.Round whatever comes; around: a map of its own, always answered. -/
import Derived.Test.YtlopcegpolpndaaW5
namespace Go.Proofs.Ytlopcegpolpndaa
open Go.RowKit PermM TripM

set_option maxHeartbeats 4000000 in
set_option maxRecDepth 100000 in
theorem Round_any {A : Option Addr} {cap : Nat} {m : List (List Int)} {w : World} (h : MapAt w A m) (hlen : m.length ≤ 9223372036854775807) (hrl : ∀ r ∈ m, r.length ≤ 9223372036854775807) (h7 : MapOk m → m.length ≤ 7) :
    Calls Try.prog 7 #[.slice A m.length cap] w (RoundPost m w) := by
  by_cases t : MapOk m
  case neg =>
    go_enter Try.func7, Try.ntmps7
    go_wp2_with fail
    refine (Check_bad h hlen hrl t).mono ?_
    rintro e w0 ⟨hs0, k, rfl⟩
    go_wp2
    go_ret3
    exact ⟨hs0, .inl ⟨t, k, rfl⟩⟩
  have hn := h7 t
  by_cases h2 : 2 ≤ m.length
  · exact Round_big h t hn h2
  have hz2 : (m.length : Int) < 2 := by omega
  have hmk3 := run_make_row' (P := Try.prog) 23 3 (.int .i64 0) 8 Try.underlying23 (show (Try.prog.info? 3).map (fun i => (i.zero, i.size, i.bytes)) = some (some (.int .i64 0), 1, 8) by kernel_rfl) rfl .i64 .i64 m.length (by omega) (by omega) w
  go_enter Try.func7, Try.ntmps7
  go_wp2_with fail
  refine (Check_ok h t).mono ?_
  rintro e w0 ⟨rfl, rfl⟩
  go_wp2
  go_ret3
  have hown := own_full w (madeCells #[.int .i64 0] m.length) 3 m.length (by unfold maxLen; omega) (size_madeCells _ _)
  have hperm : ∀ l', IsPerm m.length l' → longOf (dOf m) l' = 0 := fun l' hl' => by
    have := hl'.len
    match l', this with
    | [], _ => rfl
    | [_], _ => rfl
    | _ :: _ :: _, h => simp at h; omega
  have hp0 := isPerm_range m.length
  refine ⟨(World.Since.refl _ _).alloc (Nat.le_refl _) _, .inr ⟨t, .slice (some ⟨w.heap.size, 0, none⟩) m.length m.length, List.range m.length, ?_, ?_, hp0, ?_, fun l' hl' => ?_⟩⟩
  · rw [hperm _ hp0]; rfl
  · have e : (madeCells #[Value.int .i64 0] m.length).toList = (List.range m.length).map fun (x : Nat) => Value.int .i64 (x : Int) := by
      match h : m.length with
      | 0 => simp [madeCells]
      | 1 => simp [madeCells, List.range_succ]
      | k + 2 => omega
    rw [← e]; exact hown
  · match h : m.length with
    | 0 => rfl
    | 1 => rfl
    | k + 2 => omega
  · rw [hperm _ hp0, hperm _ hl']; exact Int.le_refl _

/-- around's map -/
def sample : List (List Int) := [[0, 1, 9], [9, 0, 2], [3, 9, 0]]
theorem sample_ok : MapOk sample := ⟨by decide, by decide, by decide⟩
theorem perm3 {l : List Nat} (h : IsPerm 3 l) (h0 : l.headD 0 = 0) : l = [0, 1, 2] ∨ l = [0, 2, 1] := by
  have hl := h.len
  match l, hl with
  | [a, b, c], _ =>
    simp at h0
    subst h0
    have hn := h.nodup
    have hb := h.lt b (by simp)
    have hc := h.lt c (by simp)
    simp at hn
    have hb' : b = 1 ∨ b = 2 := by omega
    have hc' : c = 1 ∨ c = 2 := by omega
    rcases hb' with rfl | rfl <;> rcases hc' with rfl | rfl <;> simp_all
theorem sample_least {l : List Nat} (h : IsPerm sample.length l) (h0 : l.headD 0 = 0) (hm : ∀ l', IsPerm sample.length l' → longOf (dOf sample) l ≤ longOf (dOf sample) l') : l = [0, 1, 2] := by
  rcases perm3 h h0 with rfl | rfl
  · rfl
  · have := hm [0, 1, 2] ⟨rfl, by decide, by decide⟩
    exact absurd this (by decide)

theorem ints_row {w : World} {g n : Nat} {f : Nat → Value} {xs : List Int} (h : w.rowIs g 3 n f) (hf : ∀ i, i < xs.length → i < n ∧ f i = .int .i64 (xs.getD i 0)) : IntsAt w (some ⟨g, 0, none⟩) xs := fun k hk =>
  ⟨g, 0, rfl, h.lt, fun i x hx => by
    have hi := (List.getElem?_eq_some_iff.1 hx).1
    rw [Nat.zero_add, h.cell (hf i hi).1, (hf i hi).2, List.getD_eq_getElem?_getD, hx]; rfl⟩
def W1 (w : World) : World := w.alloc (.cells #[.int .i64 0, .int .i64 1, .int .i64 9] 3)
def W2 (w : World) : World := (W1 w).alloc (.cells #[.int .i64 9, .int .i64 0, .int .i64 2] 3)
def W3 (w : World) : World := (W2 w).alloc (.cells #[.int .i64 3, .int .i64 9, .int .i64 0] 3)
def W4 (w : World) : World := (W3 w).alloc (.cells #[.slice (some ⟨w.heap.size, 0, none⟩) 3 3, .slice (some ⟨w.heap.size + 1, 0, none⟩) 3 3, .slice (some ⟨w.heap.size + 1 + 1, 0, none⟩) 3 3] 23)
theorem getD_arr (c : Array Value) : ∀ i, i < c.size → c[i]? = some (c.getD i undef) := fun i hi => by
  rw [Array.getD_eq_getD_getElem?, Array.getElem?_eq_getElem hi]; rfl
theorem W1_size (w : World) : (W1 w).heap.size = w.heap.size + 1 := by simp [W1]
theorem W2_size (w : World) : (W2 w).heap.size = w.heap.size + 1 + 1 := by simp [W2, W1_size]
theorem W3_size (w : World) : (W3 w).heap.size = w.heap.size + 1 + 1 + 1 := by simp [W3, W2_size]
theorem W4_since (w : World) : w.Since w.heap.size (W4 w) :=
  ((((World.Since.refl _ _).alloc (Nat.le_refl _) _).alloc (by rw [show (w.alloc _).heap.size = _ from W1_size w]; omega) _).alloc (by rw [show (World.alloc (World.alloc w _) _).heap.size = _ from W2_size w]; omega) _).alloc (by rw [show (World.alloc (World.alloc (World.alloc w _) _) _).heap.size = _ from W3_size w]; omega) _
theorem sample_at (w : World) : MapAt (W4 w) (some ⟨w.heap.size + 1 + 1 + 1, 0, none⟩) sample := by
  have r1 := (((World.rowIs_alloc w #[.int .i64 0, .int .i64 1, .int .i64 9] 3 _ (getD_arr _)).alloc (.cells #[.int .i64 9, .int .i64 0, .int .i64 2] 3)).alloc (.cells #[.int .i64 3, .int .i64 9, .int .i64 0] 3)).alloc (.cells #[.slice (some ⟨w.heap.size, 0, none⟩) 3 3, .slice (some ⟨w.heap.size + 1, 0, none⟩) 3 3, .slice (some ⟨w.heap.size + 1 + 1, 0, none⟩) 3 3] 23)
  have r2 := ((World.rowIs_alloc (W1 w) #[.int .i64 9, .int .i64 0, .int .i64 2] 3 _ (getD_arr _)).alloc (.cells #[.int .i64 3, .int .i64 9, .int .i64 0] 3)).alloc (.cells #[.slice (some ⟨w.heap.size, 0, none⟩) 3 3, .slice (some ⟨w.heap.size + 1, 0, none⟩) 3 3, .slice (some ⟨w.heap.size + 1 + 1, 0, none⟩) 3 3] 23)
  have r3 := (World.rowIs_alloc (W2 w) #[.int .i64 3, .int .i64 9, .int .i64 0] 3 _ (getD_arr _)).alloc (.cells #[.slice (some ⟨w.heap.size, 0, none⟩) 3 3, .slice (some ⟨w.heap.size + 1, 0, none⟩) 3 3, .slice (some ⟨w.heap.size + 1 + 1, 0, none⟩) 3 3] 23)
  have r4 := World.rowIs_alloc (W3 w) #[.slice (some ⟨w.heap.size, 0, none⟩) 3 3, .slice (some ⟨w.heap.size + 1, 0, none⟩) 3 3, .slice (some ⟨w.heap.size + 1 + 1, 0, none⟩) 3 3] 23 _ (getD_arr _)
  rw [W1_size] at r2
  rw [W2_size] at r3
  rw [W3_size] at r4
  change (W4 w).rowIs _ _ _ _ at r1 r2 r3 r4
  intro k _
  refine ⟨_, 0, rfl, r4.lt, fun i r hr => ?_⟩
  have hi := (List.getElem?_eq_some_iff.1 hr).1
  rw [Nat.zero_add, r4.cell hi]
  match i, hr with
  | 0, hr => simp [sample] at hr; subst hr; exact ⟨_, _, rfl, ints_row r1 (fun i hi => by match i, hi with | 0, _ => exact ⟨by simp, rfl⟩ | 1, _ => exact ⟨by simp, rfl⟩ | 2, _ => exact ⟨by simp, rfl⟩)⟩
  | 1, hr => simp [sample] at hr; subst hr; exact ⟨_, _, rfl, ints_row r2 (fun i hi => by match i, hi with | 0, _ => exact ⟨by simp, rfl⟩ | 1, _ => exact ⟨by simp, rfl⟩ | 2, _ => exact ⟨by simp, rfl⟩)⟩
  | 2, hr => simp [sample] at hr; subst hr; exact ⟨_, _, rfl, ints_row r3 (fun i hi => by match i, hi with | 0, _ => exact ⟨by simp, rfl⟩ | 1, _ => exact ⟨by simp, rfl⟩ | 2, _ => exact ⟨by simp, rfl⟩)⟩

set_option maxHeartbeats 4000000 in
set_option maxRecDepth 100000 in
theorem around_any (w : World) : Calls Try.prog 8 #[] w fun e w' => e = .returned (.bool true) ∧ w.Since w.heap.size w' := by
  go_enter Try.func8, Try.ntmps8
  go_wp2_with fail
  refine (Round_any (m := sample) (cap := 3) (sample_at w) (by decide) (by decide) (fun _ => by decide)).mono ?_
  rintro e w1 ⟨hs1, ⟨hb, _⟩ | ⟨_, v, l, rfl, hown, hp, h0, hm⟩⟩
  · exact absurd sample_ok hb
  obtain rfl := sample_least hp h0 hm
  obtain ⟨A, cap, rfl, hc, hcm, ho⟩ := own_row hown
  obtain ⟨g, f, rfl, hg, hr, hf⟩ := ho (by decide)
  have hcc : 1 < cap := by have : 3 ≤ cap := hc; omega
  have hc1 := hr.cell hcc
  rw [hf 1 (by decide)] at hc1
  have hc2 : w1.cell? ⟨g, 1, none⟩ = some (.int .i64 1) := hc1
  have hlong : longOf (dOf sample) [0, 1, 2] = 6 := by decide
  rw [hlong]
  have hss := since_join (W4_since w) hs1
  clear ho hf hr hc1 hm hp hown hs1
  go_wp2
  go_ret
  exact ⟨rfl, hss⟩
end Go.Proofs.Ytlopcegpolpndaa
