/- A region that draws its order, walked once by a plan: which operation is taken first (its value is the same in every world of S), which is the only one that may come up. -/
import Derived.OrdersHeld
import Derived.Still
import Derived.Test.YtgahgdgpncnffaaDoorD8
namespace Go.Proofs.YtgahgdgpncnffaaDoor
section
variable {P : Program} {ops : Array Oper} {md : Region.Mode} {S : World → Prop} {Q : Exit → Act → World → Prop}

/-- the walk of a plan: (true, i): number i is taken first; (false, i): number i is the only one that may come up -/
def Planned (P : Program) (ops : Array Oper) (S : World → Prop) (Q : Exit → Act → World → Prop) : List (Bool × Nat) → Act → World → Prop
  | [], a, w => Q .normal a w
  | (b, i) :: r, a, w => match ops[i]? with
    | none => False
    | some o => if b = true then (if Region.wanted o (yielded ops a.tmps) = true then ∃ v, (∀ w', S w' → (execOp a.eval o).run P w' = .ok (.value v) w') ∧ Planned P ops S Q r (a.put o.dst v) w else Planned P ops S Q r (a.put o.dst undef) w)
      else wpOp P ops Q i (fun a' w' => S w' ∧ Planned P ops S Q r a' w') a w
/-- does the plan fit the region? -/
def planFits (md : Region.Mode) (ops : Array Oper) : List (Bool × Nat) → Array Bool → Bool
  | [], listed => (Region.ready md ops listed).isEmpty
  | (b, i) :: r, listed => (if b then (Region.ready md ops listed).contains i && Region.free md ops listed i else decide (Region.ready md ops listed = [i])) && planFits md ops r (listed.setIfInBounds i true)

theorem held_of_plan (hs : Region.noSelect ops = true) (hQ : ∀ c a d v w, Q (.panic c) (Act.put a d v) w → Q (.panic c) a w) : ∀ (l : List (Bool × Nat)) (listed : Array Bool) (a : Act) (w : World),
    planFits md ops l listed = true → S w → Planned P ops S Q l a w → wpAnyH P md ops Q S l.length listed a w
  | [], listed, a, w, hB, _, h => ⟨by simpa [planFits] using hB, h⟩
  | (true, i) :: r, listed, a, w, hB, hS, h => by
    simp only [planFits, if_true, Bool.and_eq_true] at hB
    obtain ⟨⟨h1, h2⟩, h3⟩ := hB
    unfold Planned at h
    split at h
    · exact absurd h id
    · rename_i o ho
      simp only [if_true] at h
      by_cases hw : Region.wanted o (yielded ops a.tmps) = true
      · rw [if_pos hw] at h
        obtain ⟨v, hv, hr⟩ := h
        exact wpAnyH_take ho hs h2 h1 (fun c a w => hQ c a _ _ w) (.inl ⟨hw, hv⟩) hS (held_of_plan hs hQ r _ _ w h3 hS hr)
      · rw [if_neg hw] at h
        exact wpAnyH_take ho hs h2 h1 (fun c a w => hQ c a _ _ w) (.inr ⟨by simpa using hw, rfl⟩) hS (held_of_plan hs hQ r _ _ w h3 hS h)
  | (false, i) :: r, listed, a, w, hB, hS, h => by
    simp only [planFits, Bool.false_eq_true, if_false, Bool.and_eq_true, decide_eq_true_eq] at hB
    obtain ⟨h1, h3⟩ := hB
    unfold Planned at h
    split at h
    · exact absurd h id
    · simp only [Bool.false_eq_true, if_false] at h
      refine wpAnyH_all h1 (by simp) (fun j hj => ?_)
      obtain rfl : j = i := by simpa using hj
      exact wpOp_mono (fun a' w' h' => ⟨h'.1, held_of_plan hs hQ r _ _ w' h3 h'.1 h'.2⟩) h

theorem plan_take {i : Nat} {o : Oper} {r : List (Bool × Nat)} {a : Act} {w : World} (ho : ops[i]? = some o)
    (h : ∀ K : Act → Prop, (∀ a, Planned P ops S Q r a w → K a) → if Region.wanted o (yielded ops a.tmps) = true then ∃ v, (∀ w', S w' → (execOp a.eval o).run P w' = .ok (.value v) w') ∧ K (a.put o.dst v) else K (a.put o.dst undef)) : Planned P ops S Q ((true, i) :: r) a w := by
  unfold Planned
  rw [ho]
  simp only [if_true]
  exact h _ (fun _ h => h)
theorem plan_next {i : Nat} {o : Oper} {r : List (Bool × Nat)} {a : Act} {w : World} (ho : ops[i]? = some o)
    (h : ∀ K : Act → World → Prop, (∀ a w, S w → Planned P ops S Q r a w → K a w) → if Region.wanted o (yielded ops a.tmps) = true then Oper.wp P o a w K Q else K (a.put o.dst undef) w) : Planned P ops S Q ((false, i) :: r) a w := by
  unfold Planned
  rw [ho]
  simp only [Bool.false_eq_true, if_false]
  have h1 := h (fun a' w' => S w' ∧ Planned P ops S Q r a' w') (fun _ _ h1 h2 => ⟨h1, h2⟩)
  unfold wpOp
  simp only [ho]
  split
  · rename_i hw; rw [if_pos hw] at h1; exact .inl h1
  · rename_i hw; rw [if_neg hw] at h1; exact h1
theorem wp_region_planned {id : Nat} {a : Act} {w : World} {l : List Oper} (plan : List (Bool × Nat)) (hm : P.follows .mixedOrders = true) (hB : (Region.noSelect l.toArray && planFits .any l.toArray plan (Array.replicate l.toArray.size false) && decide (plan.length = l.toArray.size)) = true)
    (hQ : ∀ c a d v w, Q (.panic c) (Act.put a d v) w → Q (.panic c) a w) (hS : S w.drew) (h : Planned P l.toArray S Q plan a w.drew) : (Code.region id l.toArray true).wp P Q a w := by
  simp only [Bool.and_eq_true, decide_eq_true_eq] at hB
  obtain ⟨⟨h1, h2⟩, h3⟩ := hB
  refine wp_region_held (S := S) hm ?_
  have := held_of_plan (md := .any) h1 hQ plan _ a w.drew h2 hS h
  rwa [h3] at this
theorem plan_take' {l : List Oper} {i : Nat} {o : Oper} {r : List (Bool × Nat)} {a : Act} {w : World} (ho : l[i]? = some o)
    (h : ∀ K : Act → Prop, (∀ a, Planned P l.toArray S Q r a w → K a) → if Region.wanted o (yielded l.toArray a.tmps) = true then ∃ v, (∀ w', S w' → (execOp a.eval o).run P w' = .ok (.value v) w') ∧ K (a.put o.dst v) else K (a.put o.dst undef)) : Planned P l.toArray S Q ((true, i) :: r) a w :=
  plan_take (by rw [List.getElem?_toArray]; exact ho) h
theorem plan_next' {l : List Oper} {i : Nat} {o : Oper} {r : List (Bool × Nat)} {a : Act} {w : World} (ho : l[i]? = some o)
    (h : ∀ K : Act → World → Prop, (∀ a w, S w → Planned P l.toArray S Q r a w → K a w) → if Region.wanted o (yielded l.toArray a.tmps) = true then Oper.wp P o a w K Q else K (a.put o.dst undef) w) : Planned P l.toArray S Q ((false, i) :: r) a w :=
  plan_next (by rw [List.getElem?_toArray]; exact ho) h
theorem plan_end {a : Act} {w : World} (h : Q .normal a w) : Planned P ops S Q [] a w := h
end
end Go.Proofs.YtgahgdgpncnffaaDoor
