/- TripSaved's walk: whatever comes, true; nothing that was there turns. -/
import Derived.Test.YtlopcegpolpndaaS12
import Derived.Test.YtlopcegpolpndaaS13
import Derived.Test.YtlopcegpolpndaaW8
namespace Go.Proofs.Ytlopcegpolpndaa
open Go.RowKit PermM TripM SavedM

theorem lsum_take {α : Type} (f : α → Int) {l : List α} {k : Nat} {x : α} (h : l[k]? = some x) : lsum f (l.take (k + 1)) = lsum f (l.take k) + f x := by
  rw [take_snoc' h, lsum_append]
  show _ + (f x + 0) = _
  omega
theorem lsum_nonneg {α : Type} {f : α → Int} (hf : ∀ x, 0 ≤ f x) : ∀ l : List α, 0 ≤ lsum f l
  | [] => Int.le_refl _
  | x :: l => by have := lsum_nonneg hf l; have := hf x; show 0 ≤ f x + lsum f l; omega
theorem lsum_mem {α : Type} {f : α → Int} (hf : ∀ x, 0 ≤ f x) : ∀ {l : List α} {x : α}, x ∈ l → f x ≤ lsum f l
  | [], _, h => by cases h
  | y :: l, x, h => by
    show f x ≤ f y + lsum f l
    rcases List.mem_cons.1 h with rfl | h
    · have := lsum_nonneg hf l; omega
    · have := lsum_mem hf h; have := hf y; omega
theorem star_take {D : Nat → Nat → Int} {t : List Nat} {k p : Nat} (h : t[k]? = some p) : star D (t.take (k + 1)) = star D (t.take k) + (D 0 p + D p 0) := by
  rw [take_snoc' h, star_append]
  show _ + (D 0 p + D p 0 + 0) = _
  omega
theorem count_take {t : List Nat} {k p : Nat} (h : t[k]? = some p) (x : Nat) : (((t.take (k + 1)).count x : Nat) : Int) = ((t.take k).count x : Int) + if p = x then 1 else 0 := by
  rw [take_snoc' h, List.count_append]
  by_cases e : p = x
  · subst e; simp
  · rw [if_neg e, List.count_cons_of_ne e]; simp
theorem star_bd {D : Nat → Nat → Int} (hD : ∀ a b, 0 ≤ D a b ∧ D a b ≤ 1000000000) : ∀ t : List Nat, 0 ≤ star D t ∧ star D t ≤ 2000000000 * (t.length : Int)
  | [] => by simp [star]
  | p :: t => by
    have h1 := star_bd hD t
    have h2 := hD 0 p
    have h3 := hD p 0
    show 0 ≤ D 0 p + D p 0 + star D t ∧ D 0 p + D p 0 + star D t ≤ _
    rw [List.length_cons]
    omega
theorem long_bd {D : Nat → Nat → Int} (hD : ∀ a b, 0 ≤ D a b ∧ D a b ≤ 1000000000) (l : List Nat) : 0 ≤ longOf D l ∧ longOf D l ≤ 1000000000 * (l.length : Int) + 1000000000 := by
  rw [longOf_eq]
  split
  · have h1 := pathLen_bd hD l
    have h2 := hD (l.getD (l.length - 1) 0) (l.getD 0 0)
    omega
  · omega
theorem saved_len {D : Nat → Nat → Int} {n : Nat} {wants : Nat → Int} {room : Int} {ts : List (List Nat)} (h : Saved D n wants room ts) {t : List Nat} (ht : t ∈ ts) : t.length ≤ n := by
  refine PermM.nodup_le n t (List.nodup_iff_count.2 (fun a => ?_)) (fun x hx => (h.mem t ht x hx).2)
  by_cases ha : a ∈ t
  · obtain ⟨h1, h2⟩ := h.mem t ht a ha
    have h3 := h.once a h1 h2
    have h4 := lsum_mem (f := fun t => ((t.count a : Nat) : Int)) (fun _ => by simp) ht
    omega
  · rw [List.count_eq_zero.2 ha]; omega
theorem seen_bd (x : Nat) : ∀ ts : List (List Nat), (∀ t ∈ ts, t.length ≤ 9) → 0 ≤ lsum (fun t => ((t.count x : Nat) : Int)) ts ∧ lsum (fun t => ((t.count x : Nat) : Int)) ts ≤ 9 * (ts.length : Int)
  | [], _ => by simp [lsum]
  | t :: ts, h => by
    have h1 := seen_bd x ts (fun t ht => h t (List.mem_cons_of_mem _ ht))
    have h2 := h t (List.mem_cons_self ..)
    have h3 : t.count x ≤ t.length := List.count_le_length
    show 0 ≤ (t.count x : Int) + lsum _ ts ∧ (t.count x : Int) + lsum _ ts ≤ _
    rw [List.length_cons]
    omega
/-- what has been seen -/
def seenF (ts : List (List Nat)) (i k : Nat) (x : Nat) : Int := lsum (fun t => ((t.count x : Nat) : Int)) (ts.take i) + ((((ts.getD i []).take k).count x : Nat) : Int)
theorem getD_at {ts : List (List Nat)} {i : Nat} {t : List Nat} (h : ts[i]? = some t) : ts.getD i [] = t := by rw [List.getD_eq_getElem?_getD, h]; rfl
theorem seenF_next {ts : List (List Nat)} {i k p : Nat} {t : List Nat} (h : ts[i]? = some t) (hp : t[k]? = some p) (x : Nat) : seenF ts i (k + 1) x = seenF ts i k x + if p = x then 1 else 0 := by
  unfold seenF
  rw [getD_at h, count_take hp x]
  omega
theorem seenF_done {ts : List (List Nat)} {i : Nat} {t : List Nat} (h : ts[i]? = some t) (x : Nat) : seenF ts i t.length x = seenF ts (i + 1) 0 x := by
  unfold seenF
  rw [getD_at h, List.take_length, lsum_take _ h]
  simp
theorem seenF_bd {ts : List (List Nat)} (hl : ts.length ≤ 9) (h9 : ∀ t ∈ ts, t.length ≤ 9) (i k x : Nat) : 0 ≤ seenF ts i k x ∧ seenF ts i k x ≤ 1000 := by
  unfold seenF
  have h1 := seen_bd x (ts.take i) (fun t ht => h9 t (List.mem_of_mem_take ht))
  have h2 : (ts.take i).length ≤ ts.length := by rw [List.length_take]; omega
  have h3 : ((ts.getD i []).take k).count x ≤ 9 := by
    refine Nat.le_trans List.count_le_length ?_
    refine Nat.le_trans (List.length_take_le' _ _) ?_
    rw [List.getD_eq_getElem?_getD]
    cases hi : ts[i]? with
    | none => simp
    | some t => exact h9 t (List.mem_of_getElem? hi)
  omega
theorem vals_cons (t : List Nat) : [Value.int .i64 0] ++ natsV3 t = natsV3 (0 :: t) := rfl
theorem ints_natsV3 {w : World} {B g c : Nat} {l : List Nat} (h : w.ownsRow B 3 1 (.slice (some ⟨g, 0, none⟩) l.length c) l.length (natsV3 l)) : IntsAt w (some ⟨g, 0, none⟩) (ints l) := fun k hk => by
  rw [ints_len] at hk
  obtain ⟨g', c', e, _, hg, _, _, hc, _⟩ := own_at h (by omega)
  injection e with e _ _
  injection e with e
  injection e with e _ _
  subst e
  refine ⟨g, 0, rfl, hg, fun j x hx => ?_⟩
  rw [Nat.zero_add]
  refine hc j _ ?_
  unfold ints at hx
  unfold natsV3
  rw [List.getElem?_map] at hx ⊢
  cases hj : l[j]? with
  | none => rw [hj] at hx; simp at hx
  | some y => rw [hj] at hx; simp at hx; subst hx; rfl
end Go.Proofs.Ytlopcegpolpndaa
