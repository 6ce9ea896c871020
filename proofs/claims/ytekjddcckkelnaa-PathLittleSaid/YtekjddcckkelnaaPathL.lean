/- First come first served, piece by piece; Lindley's waits; Little's law over the times. Plain. -/
import Derived.Test.YtekjddcckkelnaaPathE
namespace Go.Proofs.Ytekjddcckkelnaa.PathM
section
variable {At Sz : Nat → Int} {n : Nat}
def pieceOf (At Sz : Nat → Int) (i : Nat) : Nat × Int × Int := (i, S At Sz i, F At Sz (i + 1))
structure Fifo (At Sz : Nat → Int) (n : Nat) (s : St) (c : Nat) : Prop where
  on : s.on = none
  le : c ≤ s.next
  wait : s.wait = List.range' c (s.next - c)
  now : s.now = F At Sz c
  out : s.out = (List.range c).map (pieceOf At Sz)
  left : ∀ i, c ≤ i → s.left i = Sz i
theorem Fifo.step (hJ : Jobs At Sz n) {best : (Nat → Int) → List Nat → Nat → Prop} (hbest : ∀ left l m, best left l m → m ∈ l ∧ ∀ j ∈ l, m ≤ j) {s : St} (hI : Inv At Sz n s) {c : Nat} (h : Fifo At Sz n s c) {k on : Nat} {a b : Int} (hs : Step At n false best s k on a b) : Fifo At Sz n (after s k on a b) (c + 1) := by
  have M := hI.mid hJ hs
  have hle := h.le
  have hkn := hs.kn
  have hW : s.wait ++ List.range' s.next k = List.range' c (s.next + k - c) := by
    have e := List.range'_append (s := c) (m := s.next - c) (n := k) (step := 1)
    rw [h.wait]
    rw [show c + 1 * (s.next - c) = s.next by omega] at e
    rw [e]; congr 1; omega
  have hm := hs.hon
  obtain ⟨hb1, hb2⟩ := hbest _ _ _ (hs.choice (.inl h.on))
  rw [hW] at hm hb2
  have hr := List.mem_range'_1.1 hm
  have hc : c < s.next + k := by omega
  have honc : on = c := by
    have := hb2 c (List.mem_range'_1.2 ⟨Nat.le_refl _, by omega⟩)
    omega
  subst honc
  have ha : a = S At Sz on := by
    have e := hs.ha
    by_cases hw : s.wait = []
    · rw [if_pos hw] at e
      have hcn : on = s.next := by
        have := congrArg List.length h.wait
        rw [hw, List.length_range'] at this
        simp at this; omega
      rw [e, h.now, ← hcn]; rfl
    · rw [if_neg hw] at e
      have hlt : on < s.next := by
        apply Classical.byContradiction
        intro hge
        apply hw
        rw [h.wait, show s.next - on = 0 by omega]; rfl
      have := hI.came on hlt
      rw [e, h.now]
      rw [h.now] at this
      unfold S; omega
  have hl := h.left on (Nat.le_refl _)
  have hb : b = F At Sz (on + 1) := by
    have e := hs.hb
    rw [if_neg (by simp)] at e
    rw [e, hl, ha]; rfl
  have hz : s.left on - (b - a) = 0 := by
    rw [hl, hb, ha, F_succ]; omega
  refine ⟨if_pos hz, by show on + 1 ≤ s.next + k; omega, ?_, hb, ?_, fun i hi => ?_⟩
  · show (if s.left on - (b - a) = 0 then (s.wait ++ List.range' s.next k).filter (fun i => !(i == on)) else _) = List.range' (on + 1) (s.next + k - (on + 1))
    rw [if_pos hz, hW, show s.next + k - on = (s.next + k - (on + 1)) + 1 by omega, List.range'_succ, List.filter_cons]
    simp only [beq_self_eq_true, Bool.not_true, Bool.false_eq_true, if_false]
    rw [List.filter_eq_self.2]
    intro x hx
    have := (List.mem_range'_1.1 hx).1
    have : x ≠ on := by omega
    simpa using this
  · show push s.out on a b = _
    have hnew : push s.out on a b = s.out ++ [(on, a, b)] := by
      unfold push
      cases hl : s.out.getLast? with
      | none => rfl
      | some p =>
        simp only
        rw [if_neg]
        rintro ⟨e, _⟩
        have hp := List.mem_of_getLast? hl
        rw [h.out] at hp
        obtain ⟨i, hi, rfl⟩ := List.mem_map.1 hp
        have hi' := List.mem_range.1 hi
        have e' : i = on := e
        omega
    rw [hnew, h.out, List.range_succ, List.map_append, ha, hb]; rfl
  · show upd s.left on (s.left on - (b - a)) i = Sz i
    unfold upd
    rw [if_neg (by omega)]
    exact h.left i (by omega)
theorem Reach.fifo (hJ : Jobs At Sz n) {best : (Nat → Int) → List Nat → Nat → Prop} (hbest : ∀ left l m, best left l m → m ∈ l ∧ ∀ j ∈ l, m ≤ j) {s : St} (h : PathM.Reach At Sz n false best s) : ∃ c, Fifo At Sz n s c := by
  induction h with
  | start => exact ⟨0, rfl, Nat.le_refl _, rfl, rfl, rfl, fun _ _ => rfl⟩
  | step hr hs ih => obtain ⟨c, hc⟩ := ih; exact ⟨c + 1, hc.step hJ hbest (hr.inv hJ) hs⟩
theorem Reach.fifo_end (hJ : Jobs At Sz n) {best : (Nat → Int) → List Nat → Nat → Prop} (hbest : ∀ left l m, best left l m → m ∈ l ∧ ∀ j ∈ l, m ≤ j) {s : St} (h : PathM.Reach At Sz n false best s) (he : ¬ (s.next < n ∨ s.wait ≠ [])) : s.out = (List.range n).map (pieceOf At Sz) := by
  obtain ⟨c, hc⟩ := h.fifo hJ hbest
  obtain ⟨h1, _, _⟩ := (h.inv hJ).end hJ he
  have hw : s.wait = [] := Classical.byContradiction fun e => he (.inr e)
  have hcn : c = n := by
    have := congrArg List.length hc.wait
    have hle := hc.le
    rw [hw, List.length_range'] at this
    simp at this; omega
  rw [hc.out, hcn]
/-- Lindley -/
theorem lindley (i : Nat) : S At Sz (i + 1) - At (i + 1) = max 0 (S At Sz i - At i + Sz i - (At (i + 1) - At i)) := by
  have e : S At Sz (i + 1) = max (S At Sz i + Sz i) (At (i + 1)) := rfl
  rw [e]; omega
theorem lindley0 (h : 0 ≤ At 0) : S At Sz 0 - At 0 = 0 := by
  have e : S At Sz 0 = max 0 (At 0) := rfl
  rw [e]; omega
end
/-! ### Little -/
/-- the least of the times behind x, or -1 -/
def nextOf (L : List Int) (x : Int) : Int := L.foldl (fun m y => if x < y ∧ (m < 0 ∨ y < m) then y else m) (-1)
theorem nextOf_snoc (L : List Int) (x y : Int) : nextOf (L ++ [y]) x = if x < y ∧ (nextOf L x < 0 ∨ y < nextOf L x) then y else nextOf L x := by
  unfold nextOf
  rw [List.foldl_append]
  rfl
theorem snocI {α : Type} {P : List α → Prop} (h0 : P []) (h1 : ∀ l a, P l → P (l ++ [a])) (l : List α) : P l := by
  have : ∀ m : List α, P m.reverse := fun m => by
    induction m with
    | nil => exact h0
    | cons a m ih => rw [List.reverse_cons]; exact h1 _ _ ih
  have h := this l.reverse
  rwa [List.reverse_reverse] at h
theorem nextOf_spec (x : Int) (L : List Int) : (∀ y ∈ L, 0 ≤ y) → (nextOf L x = -1 ∧ ∀ y ∈ L, y ≤ x) ∨ (nextOf L x ∈ L ∧ x < nextOf L x ∧ 0 ≤ nextOf L x ∧ ∀ y ∈ L, x < y → nextOf L x ≤ y) := by
  induction L using snocI with
  | h0 => intro _; exact .inl ⟨rfl, by simp⟩
  | h1 L y ih =>
    intro hp
    have hy := hp y (by simp)
    have ih := ih (fun z hz => hp z (List.mem_append_left _ hz))
    rw [nextOf_snoc]
    generalize nextOf L x = m at *
    rcases ih with ⟨h1, h2⟩ | ⟨h1, h2, h3, h4⟩
    · by_cases hxy : x < y
      · rw [if_pos ⟨hxy, .inl (by omega)⟩]
        right
        refine ⟨by simp, hxy, hy, fun z hz hxz => ?_⟩
        rcases List.mem_append.1 hz with hz | hz
        · have := h2 z hz; omega
        · simp at hz; omega
      · rw [if_neg (fun h => hxy h.1)]
        left
        refine ⟨h1, fun z hz => ?_⟩
        rcases List.mem_append.1 hz with hz | hz
        · exact h2 z hz
        · simp at hz; omega
    · right
      by_cases hc : x < y ∧ (m < 0 ∨ y < m)
      · rw [if_pos hc]
        refine ⟨by simp, hc.1, hy, fun z hz hxz => ?_⟩
        rcases List.mem_append.1 hz with hz | hz
        · have := h4 z hz hxz; omega
        · simp at hz; omega
      · rw [if_neg hc]
        refine ⟨List.mem_append_left _ h1, h2, h3, fun z hz hxz => ?_⟩
        rcases List.mem_append.1 hz with hz | hz
        · exact h4 z hz hxz
        · simp at hz; subst hz; omega
/-- no like one stands ahead -/
def firstB (L : List Int) (i : Nat) : Bool := !(L.take i).contains (L.getD i 0)
def onceL (L : List Int) (p : Int → Bool) (c : Int → Int) : Int := sumL (fun i => if firstB L i = true ∧ p (L.getD i 0) = true then c (L.getD i 0) else 0) (List.range L.length)
theorem firstB_snoc {L : List Int} {y : Int} {i : Nat} (hi : i < L.length) : firstB (L ++ [y]) i = firstB L i ∧ (L ++ [y]).getD i 0 = L.getD i 0 := by
  have e : (L ++ [y]).getD i 0 = L.getD i 0 := by rw [List.getD_eq_getElem?_getD, List.getElem?_append_left hi, ← List.getD_eq_getElem?_getD]
  refine ⟨?_, e⟩
  unfold firstB
  rw [e, List.take_append_of_le_length (by omega)]
theorem onceL_snoc (L : List Int) (y : Int) (p : Int → Bool) (c : Int → Int) : onceL (L ++ [y]) p c = onceL L p c + if L.contains y = false ∧ p y = true then c y else 0 := by
  unfold onceL
  rw [List.length_append, List.length_singleton, List.range_succ, sumL_append]
  have e1 : sumL (fun i => if firstB (L ++ [y]) i = true ∧ p ((L ++ [y]).getD i 0) = true then c ((L ++ [y]).getD i 0) else 0) (List.range L.length) = sumL (fun i => if firstB L i = true ∧ p (L.getD i 0) = true then c (L.getD i 0) else 0) (List.range L.length) := sumL_congr (fun i hi => by
    obtain ⟨h1, h2⟩ := firstB_snoc (y := y) (List.mem_range.1 hi)
    rw [h1, h2])
  rw [e1, sumL_cons]
  have e2 : (L ++ [y]).getD L.length 0 = y := by rw [List.getD_eq_getElem?_getD, List.getElem?_append_right (Nat.le_refl _), Nat.sub_self]; rfl
  have e3 : firstB (L ++ [y]) L.length = !L.contains y := by unfold firstB; rw [e2, List.take_left]
  rw [e2, e3]
  simp only [Bool.not_eq_true', sumL, List.map_nil, List.sum_nil, Int.add_zero]
theorem onceL_one (L : List Int) (A : Int) (c : Int → Int) : onceL L (fun x => x == A) c = if A ∈ L then c A else 0 := by
  induction L using snocI with
  | h0 => rfl
  | h1 L y ih =>
    rw [onceL_snoc, ih]
    by_cases hA : A ∈ L
    · rw [if_pos hA, if_pos (List.mem_append_left _ hA), if_neg]
      · omega
      · rintro ⟨h1, h2⟩
        have : y = A := by simpa using h2
        subst this
        simp [hA] at h1
    · rw [if_neg hA]
      by_cases hy : y = A
      · subst hy
        rw [if_pos (by simp [hA]), if_pos (by simp)]; omega
      · rw [if_neg (by simp [hy]), if_neg (by simp [hA]; exact fun e => hy e.symm)]; omega
theorem onceL_add (L : List Int) {p q r : Int → Bool} (c : Int → Int) (h : ∀ x ∈ L, p x = (q x || r x) ∧ ¬ (q x = true ∧ r x = true)) : onceL L p c = onceL L q c + onceL L r c := by
  induction L using snocI with
  | h0 => rfl
  | h1 L y ih =>
    rw [onceL_snoc, onceL_snoc, onceL_snoc, ih (fun x hx => h x (List.mem_append_left _ hx))]
    obtain ⟨h1, h2⟩ := h y (by simp)
    rw [h1]
    cases hq : q y <;> cases hr : r y <;> simp [hq, hr] at h2 ⊢ <;> split <;> omega
theorem onceL_none (L : List Int) {p : Int → Bool} (c : Int → Int) (h : ∀ x ∈ L, p x = false) : onceL L p c = 0 := by
  induction L using snocI with
  | h0 => rfl
  | h1 L y ih =>
    rw [onceL_snoc, ih (fun x hx => h x (List.mem_append_left _ hx)), if_neg (by simp [h y (by simp)])]
    rfl
theorem little_one (L : List Int) (hL : ∀ y ∈ L, 0 ≤ y) (E : Int) (hE : E ∈ L) : ∀ (m : Nat) (A : Int), A ∈ L → A ≤ E → (E - A).toNat ≤ m → onceL L (fun x => decide (A ≤ x ∧ x < E)) (fun x => nextOf L x - x) = E - A := by
  intro m
  induction m with
  | zero =>
    intro A hA hAE hm
    rw [onceL_none _ _ (fun x _ => by simp; omega)]; omega
  | succ m ih =>
    intro A hA hAE hm
    by_cases e : A = E
    · subst e
      rw [onceL_none _ _ (fun x _ => by simp)]; omega
    · rcases nextOf_spec A L hL with ⟨_, h2⟩ | ⟨h1, h2, _, h4⟩
      · have := h2 E hE; omega
      · have h5 := h4 E hE (by omega)
        rw [onceL_add L (q := fun x => x == A) (r := fun x => decide (nextOf L A ≤ x ∧ x < E)) _ (fun x hx => ?_), onceL_one, if_pos hA, ih (nextOf L A) h1 h5 (by omega)]
        · omega
        · have h6 := h4 x hx
          constructor
          · rw [Bool.eq_iff_iff]
            simp only [decide_eq_true_eq, Bool.or_eq_true, beq_iff_eq]
            omega
          · simp only [decide_eq_true_eq, beq_iff_eq]
            omega
end Go.Proofs.Ytekjddcckkelnaa.PathM
