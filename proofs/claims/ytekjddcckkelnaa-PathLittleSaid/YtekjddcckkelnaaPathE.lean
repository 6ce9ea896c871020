/- What each job has got by a time; who is served at each time; when each is at its end; serving whoever has the least left is the best. Plain. -/
import Derived.Test.YtekjddcckkelnaaPathM
namespace Go.Proofs.Ytekjddcckkelnaa.PathM
abbrev Pieces := List (Nat × Int × Int)
/-- how long a job was served by t -/
def got (o : Pieces) (i : Nat) (t : Int) : Int := (o.map fun p => if p.1 = i then pos (min t p.2.2 - p.2.1) else 0).sum
theorem got_append (o : Pieces) (p : Nat × Int × Int) (i : Nat) (t : Int) : got (o ++ [p]) i t = got o i t + if p.1 = i then pos (min t p.2.2 - p.2.1) else 0 := by
  simp [got, List.sum_append]
theorem got_push {o : Pieces} {on i : Nat} {a b t : Int} (hab : a ≤ b) (hl : ∀ p, o.getLast? = some p → p.2.1 ≤ p.2.2) : got (push o on a b) i t = got o i t + if on = i then pos (min t b - a) else 0 := by
  unfold push
  cases h : o.getLast? with
  | none => exact got_append _ _ _ _
  | some p =>
    simp only
    split
    · rename_i e
      have ho : o = o.dropLast ++ [p] := by
        obtain ⟨q, rfl⟩ := List.getLast?_eq_some_iff.1 h
        simp
      have h1 := hl p h
      conv => rhs; rw [ho]
      rw [got_append, got_append]
      simp only [e.1]
      split
      · unfold pos; omega
      · omega
    · exact got_append _ _ _ _
theorem sum_congr' {o : Pieces} {f g : Nat × Int × Int → Int} (h : ∀ p ∈ o, f p = g p) : (o.map f).sum = (o.map g).sum := by rw [List.map_congr_left h]
theorem got_flat {o : Pieces} {i : Nat} {t u : Int} (h : ∀ p ∈ o, p.1 = i → p.2.2 ≤ t ∧ p.2.2 ≤ u) : got o i t = got o i u := by
  unfold got
  refine sum_congr' (fun p hp => ?_)
  split
  · rename_i e
    have := h p hp e
    unfold pos; omega
  · rfl
theorem got_none {o : Pieces} {i : Nat} {t : Int} (h : ∀ p ∈ o, p.1 = i → t ≤ p.2.1) : got o i t = 0 := by
  unfold got
  induction o with
  | nil => rfl
  | cons p o ih =>
    rw [List.map_cons, List.sum_cons, ih (fun q hq => h q (List.mem_cons_of_mem _ hq))]
    split
    · rename_i e
      have := h p (List.mem_cons_self ..) e
      unfold pos; omega
    · omega
theorem got_mono {o : Pieces} {i : Nat} {t u : Int} (h : t ≤ u) : got o i t ≤ got o i u := by
  unfold got
  induction o with
  | nil => exact Int.le_refl _
  | cons p o ih =>
    rw [List.map_cons, List.map_cons, List.sum_cons, List.sum_cons]
    have : (if p.1 = i then pos (min t p.2.2 - p.2.1) else 0) ≤ (if p.1 = i then pos (min u p.2.2 - p.2.1) else 0) := by
      split
      · unfold pos; omega
      · omega
    omega
theorem got_lt {o : Pieces} {i : Nat} {t u : Int} (h : t ≤ u) {p : Nat × Int × Int} (hp : p ∈ o) (h1 : p.1 = i) (h2 : p.2.1 < p.2.2) (h3 : t < p.2.2) (h4 : p.2.2 ≤ u) : got o i t < got o i u := by
  induction o with
  | nil => cases hp
  | cons q o ih =>
    have hm := got_mono (o := o) (i := i) h
    unfold got at ih hm ⊢
    rw [List.map_cons, List.map_cons, List.sum_cons, List.sum_cons]
    have : (if q.1 = i then pos (min t q.2.2 - q.2.1) else 0) ≤ (if q.1 = i then pos (min u q.2.2 - q.2.1) else 0) := by
      split
      · unfold pos; omega
      · omega
    rcases List.mem_cons.1 hp with rfl | hp
    · have : (if p.1 = i then pos (min t p.2.2 - p.2.1) else 0) < (if p.1 = i then pos (min u p.2.2 - p.2.1) else 0) := by
        rw [if_pos h1, if_pos h1]
        unfold pos; omega
      omega
    · have := ih hp
      omega
def rem (Sz : Nat → Int) (o : Pieces) (i : Nat) (t : Int) : Int := Sz i - got o i t
/-- who is served from t to t + 1 -/
def Slot (At Sz : Nat → Int) (n : Nat) (srpt : Bool) (o : Pieces) (t : Int) : Prop :=
  (∀ i, i < n → rem Sz o i (t + 1) = rem Sz o i t ∧ (At i ≤ t → rem Sz o i t = 0)) ∨
  ∃ j, j < n ∧ At j ≤ t ∧ 0 < rem Sz o j t ∧ rem Sz o j (t + 1) = rem Sz o j t - 1 ∧ (∀ i, i ≠ j → rem Sz o i (t + 1) = rem Sz o i t) ∧ (srpt = true → ∀ i, i < n → At i ≤ t → 0 < rem Sz o i t → rem Sz o j t ≤ rem Sz o i t)
section
variable {At Sz : Nat → Int} {n : Nat}
theorem Slot.congr {srpt : Bool} {o o' : Pieces} {t : Int} (h : Slot At Sz n srpt o t) (h1 : ∀ i, got o' i t = got o i t) (h2 : ∀ i, got o' i (t + 1) = got o i (t + 1)) : Slot At Sz n srpt o' t := by
  have e1 : ∀ i, rem Sz o' i t = rem Sz o i t := fun i => by unfold rem; rw [h1]
  have e2 : ∀ i, rem Sz o' i (t + 1) = rem Sz o i (t + 1) := fun i => by unfold rem; rw [h2]
  unfold Slot at h ⊢
  simp only [e1, e2]
  exact h
structure Hist (At Sz : Nat → Int) (n : Nat) (srpt : Bool) (s : St) : Prop where
  left : ∀ i, s.left i = rem Sz s.out i s.now
  slots : ∀ t, 0 ≤ t → t < s.now → Slot At Sz n srpt s.out t
theorem Hist.step (hJ : Jobs At Sz n) {pre srpt : Bool} {best : (Nat → Int) → List Nat → Nat → Prop} (hbest : srpt = true → pre = true ∧ ∀ left l m, best left l m → ∀ j ∈ l, left m ≤ left j) {s : St} (hI : Inv At Sz n s) (h : Hist At Sz n srpt s) {k on : Nat} {a b : Int} (hs : Step At n pre best s k on a b) : Hist At Sz n srpt (after s k on a b) := by
  have M := hI.mid hJ hs
  have e1 := M.ab
  have e2 := M.bl
  have e3 := M.now_a
  have hlast : ∀ p, s.out.getLast? = some p → p.2.1 ≤ p.2.2 := fun p hp => by have := (hI.fine.each p (List.mem_of_getLast? hp)).2.1; omega
  have hg : ∀ i t, got (push s.out on a b) i t = got s.out i t + if on = i then pos (min t b - a) else 0 := fun i t => got_push (by omega) hlast
  have hflat : ∀ i t, s.now ≤ t → got s.out i t = got s.out i s.now := fun i t ht => got_flat (fun p hp _ => by have := (hI.fine.each p hp).2.2.2.2; omega)
  have hleft : ∀ i t, s.now ≤ t → Sz i - got s.out i t = s.left i := fun i t ht => by rw [hflat i t ht]; exact (h.left i).symm
  refine ⟨fun i => ?_, fun t ht0 ht => ?_⟩
  · show upd s.left on (s.left on - (b - a)) i = Sz i - got (push s.out on a b) i b
    rw [hg]
    have := hleft i b (by omega)
    unfold upd
    by_cases e : i = on
    · subst e
      rw [if_pos rfl, if_pos rfl]
      unfold pos; omega
    · rw [if_neg e, if_neg (fun x => e x.symm)]; omega
  · have ht' : t < b := ht
    show Slot At Sz n srpt (push s.out on a b) t
    by_cases c1 : t < s.now
    · refine (h.slots t ht0 c1).congr (fun i => ?_) (fun i => ?_)
      · rw [hg]; split
        · unfold pos; omega
        · omega
      · rw [hg]; split
        · unfold pos; omega
        · omega
    · have hr : ∀ i u, s.now ≤ u → rem Sz (push s.out on a b) i u = s.left i - if on = i then pos (min u b - a) else 0 := fun i u hu => by
        unfold rem; rw [hg, ← hleft i u hu]; omega
      by_cases c2 : t < a
      · left
        intro i hi
        rw [hr i t (by omega), hr i (t + 1) (by omega)]
        have hz : ∀ u, u ≤ a → (if on = i then pos (min u b - a) else 0) = 0 := fun u hu => by
          split
          · unfold pos; omega
          · rfl
        rw [hz t (by omega), hz (t + 1) (by omega)]
        refine ⟨rfl, fun hAt => ?_⟩
        have hw : s.wait = [] := by
          apply Classical.byContradiction
          intro hw
          have ha : a = s.now := by rw [hs.ha, if_neg hw]
          omega
        have ha : a = max s.now (At s.next) := by rw [hs.ha, if_pos hw]
        have hlt : i < s.next := by
          apply Classical.byContradiction
          intro hge
          have := hJ.row s.next i (by omega) hi
          omega
        have := hI.done i hlt (by rw [hw]; simp)
        omega
      · right
        have hon : on < n := by have := M.on_lt; have := hs.kn; omega
        refine ⟨on, hon, ?_, ?_, ?_, fun i hi => ?_, fun hsr i hi hAt hpos => ?_⟩
        · have := M.came on M.on_lt; omega
        · rw [hr on t (by omega), if_pos rfl]; unfold pos; omega
        · rw [hr on t (by omega), hr on (t + 1) (by omega), if_pos rfl, if_pos rfl]; unfold pos; omega
        · rw [hr i t (by omega), hr i (t + 1) (by omega), if_neg (fun e => hi e.symm), if_neg (fun e => hi e.symm)]
        · rw [hr on t (by omega), if_pos rfl]
          rw [hr i t (by omega)] at hpos ⊢
          by_cases e : on = i
          · subst e; rw [if_pos rfl]; omega
          · rw [if_neg e] at hpos ⊢
            obtain ⟨hp, hb⟩ := hbest hsr
            have hiq : i < s.next + k := by
              apply Classical.byContradiction
              intro hge
              have h1 := hJ.row (s.next + k) i (by omega) hi
              have h2 := hs.hb
              rw [if_pos ⟨hp, by omega⟩] at h2
              omega
            have hmem : i ∈ s.wait ++ List.range' s.next k := by
              by_cases hlt : i < s.next
              · refine List.mem_append_left _ (Classical.byContradiction fun hno => ?_)
                have := hI.done i hlt hno
                omega
              · exact List.mem_append_right _ (List.mem_range'_1.2 ⟨by omega, hiq⟩)
            have := hb _ _ _ (hs.choice (.inr hp)) i hmem
            unfold pos; omega
theorem Reach.hist (hJ : Jobs At Sz n) {pre srpt : Bool} {best : (Nat → Int) → List Nat → Nat → Prop} (hbest : srpt = true → pre = true ∧ ∀ left l m, best left l m → ∀ j ∈ l, left m ≤ left j) {s : St} (h : PathM.Reach At Sz n pre best s) : Hist At Sz n srpt s := by
  induction h with
  | start => exact ⟨fun i => by simp [PathM.start, rem, got], fun t h1 h2 => by simp [PathM.start] at h2; omega⟩
  | step hr hs ih => exact ih.step hJ hbest (hr.inv hJ) hs

/-- when a job was at its end, by pieces, as they come -/
def endOf (o : Pieces) (i : Nat) : Int := o.foldl (fun m p => if p.1 = i then max m p.2.2 else m) 0
theorem endOf_snoc (o : Pieces) (p : Nat × Int × Int) (i : Nat) : endOf (o ++ [p]) i = if p.1 = i then max (endOf o i) p.2.2 else endOf o i := by simp [endOf]
theorem foldl_end (i : Nat) : ∀ (o : Pieces) (m : Int), let e := o.foldl (fun m p => if p.1 = i then max m p.2.2 else m) m
    m ≤ e ∧ (∀ p ∈ o, p.1 = i → p.2.2 ≤ e) ∧ (e = m ∨ ∃ p ∈ o, p.1 = i ∧ p.2.2 = e)
  | [], m => ⟨Int.le_refl _, by simp, .inl rfl⟩
  | p :: o, m => by
    obtain ⟨h1, h2, h3⟩ := foldl_end i o (if p.1 = i then max m p.2.2 else m)
    simp only [List.foldl_cons] at h1 h2 h3 ⊢
    refine ⟨?_, fun q hq hi => ?_, ?_⟩
    · by_cases hi : p.1 = i
      · rw [if_pos hi] at h1 ⊢; omega
      · rw [if_neg hi] at h1 ⊢; exact h1
    · rcases List.mem_cons.1 hq with rfl | hq
      · rw [if_pos hi] at h1 ⊢; omega
      · exact h2 q hq hi
    · rcases h3 with h3 | ⟨q, hq, hi, he⟩
      · by_cases hi : p.1 = i
        · rw [if_pos hi] at h3 ⊢
          by_cases hm : p.2.2 ≤ m
          · left; rw [h3]; omega
          · right; exact ⟨p, List.mem_cons_self .., hi, by rw [h3]; omega⟩
        · rw [if_neg hi] at h3 ⊢; exact .inl h3
      · right; exact ⟨q, List.mem_cons_of_mem _ hq, hi, he⟩
theorem endOf_spec (o : Pieces) (i : Nat) : 0 ≤ endOf o i ∧ (∀ p ∈ o, p.1 = i → p.2.2 ≤ endOf o i) ∧ (endOf o i = 0 ∨ ∃ p ∈ o, p.1 = i ∧ p.2.2 = endOf o i) := foldl_end i o 0
/-- what is known of pieces that did all jobs by time T -/
structure Full (At Sz : Nat → Int) (n : Nat) (srpt : Bool) (T : Int) (o : Pieces) : Prop where
  T0 : 0 ≤ T
  fine : Fine At n T o
  all : ∀ i, i < n → got o i T = Sz i
  slots : ∀ t, 0 ≤ t → t < T → Slot At Sz n srpt o t
theorem Reach.full (hJ : Jobs At Sz n) {pre srpt : Bool} {best : (Nat → Int) → List Nat → Nat → Prop} (hbest : srpt = true → pre = true ∧ ∀ left l m, best left l m → ∀ j ∈ l, left m ≤ left j) {s : St} (h : PathM.Reach At Sz n pre best s) (he : ¬ (s.next < n ∨ s.wait ≠ [])) : Full At Sz n srpt (F At Sz n) s.out := by
  have I := h.inv hJ
  have H := h.hist hJ hbest (srpt := srpt)
  obtain ⟨h1, h2, _⟩ := I.end hJ he
  have hw : s.wait = [] := Classical.byContradiction fun e => he (.inr e)
  refine ⟨by rw [← h2]; exact I.now0, by rw [← h2]; exact I.fine, fun i hi => ?_, by rw [← h2]; exact H.slots⟩
  have h3 := H.left i
  have h4 := I.done i (by omega) (by rw [hw]; simp)
  rw [h2] at h3
  unfold rem at h3
  omega
theorem Full.pos_iff {srpt : Bool} {T : Int} {o : Pieces} (h : Full At Sz n srpt T o) {i : Nat} (hi : i < n) {t : Int} (ht : 0 ≤ t) (htT : t ≤ T) : 0 < rem Sz o i t ↔ t < endOf o i := by
  obtain ⟨e0, e1, e2⟩ := endOf_spec o i
  have ha := h.all i hi
  constructor
  · intro hp
    apply Classical.byContradiction
    intro hge
    have : got o i t = got o i T := got_flat (fun p hp hpi => by
      have := e1 p hp hpi
      have := (h.fine.each p hp).2.2.2.2
      omega)
    unfold rem at hp
    omega
  · intro hlt
    rcases e2 with e2 | ⟨p, hp, hpi, he⟩
    · omega
    · have := got_lt (o := o) (i := i) (t := t) (u := T) htT hp hpi (h.fine.each p hp).2.1 (by omega) (h.fine.each p hp).2.2.2.2
      unfold rem
      omega
theorem Full.end_le {srpt : Bool} {T : Int} {o : Pieces} (h : Full At Sz n srpt T o) (i : Nat) : endOf o i ≤ T := by
  have h0 := h.T0
  rcases (endOf_spec o i).2.2 with e | ⟨p, hp, _, he⟩
  · omega
  · have := (h.fine.each p hp).2.2.2.2; omega
theorem Full.nonneg {srpt : Bool} {T : Int} {o : Pieces} (h : Full At Sz n srpt T o) {i : Nat} (hi : i < n) {t : Int} (ht : t ≤ T) : 0 ≤ rem Sz o i t := by
  have := got_mono (o := o) (i := i) ht
  have := h.all i hi
  unfold rem; omega
theorem Full.late {srpt : Bool} {T : Int} {o : Pieces} (h : Full At Sz n srpt T o) {i : Nat} {t : Int} (ht : t ≤ At i) : rem Sz o i t = Sz i := by
  have : got o i t = 0 := got_none (fun p hp hpi => by
    have := (h.fine.each p hp).2.2.1
    rw [hpi] at this
    omega)
  unfold rem; omega
theorem Full.end_ge (hJ : Jobs At Sz n) {srpt : Bool} {T : Int} {o : Pieces} (h : Full At Sz n srpt T o) {i : Nat} (hi : i < n) (hT : At i ≤ T) : At i < endOf o i := by
  rw [← h.pos_iff hi (hJ.zero i hi) hT, h.late (Int.le_refl _)]
  have := hJ.size i hi
  omega

/-! ### who has the least left is served: the fewest are there at any time -/
def sumL (f : Nat → Int) (l : List Nat) : Int := (l.map f).sum
theorem sumL_cons (f : Nat → Int) (x : Nat) (l : List Nat) : sumL f (x :: l) = f x + sumL f l := rfl
theorem sumL_append (f : Nat → Int) (a b : List Nat) : sumL f (a ++ b) = sumL f a + sumL f b := by simp [sumL, List.sum_append]
theorem sumL_nonneg {f : Nat → Int} {l : List Nat} (h : ∀ i ∈ l, 0 ≤ f i) : 0 ≤ sumL f l := lsum_nonneg h
theorem sumL_zero {f : Nat → Int} {l : List Nat} (h : ∀ i ∈ l, 0 ≤ f i) (hz : sumL f l ≤ 0) : ∀ i ∈ l, f i = 0 := by
  induction l with
  | nil => simp
  | cons x l ih =>
    have h1 := sumL_nonneg (fun i hi => h i (List.mem_cons_of_mem _ hi))
    have h2 := h x (List.mem_cons_self ..)
    rw [sumL_cons] at hz
    intro i hi
    rcases List.mem_cons.1 hi with rfl | hi
    · omega
    · exact ih (fun i hi => h i (List.mem_cons_of_mem _ hi)) (by omega) i hi
theorem sumL_le {f g : Nat → Int} {l : List Nat} (h : ∀ i ∈ l, f i ≤ g i) : sumL f l ≤ sumL g l := by
  induction l with
  | nil => exact Int.le_refl _
  | cons x l ih =>
    rw [sumL_cons, sumL_cons]
    have := h x (List.mem_cons_self ..)
    have := ih (fun i hi => h i (List.mem_cons_of_mem _ hi))
    omega
theorem sumL_congr {f g : Nat → Int} {l : List Nat} (h : ∀ i ∈ l, f i = g i) : sumL f l = sumL g l := lsum_congr h
theorem sumL_erase {f : Nat → Int} {l : List Nat} {x : Nat} (hx : x ∈ l) : sumL f l = f x + sumL f (l.erase x) := by
  induction l with
  | nil => cases hx
  | cons y l ih =>
    by_cases e : y = x
    · subst e; rw [List.erase_cons_head, sumL_cons]
    · rw [List.erase_cons_tail (by simpa using e), sumL_cons, sumL_cons, ih (by
        rcases List.mem_cons.1 hx with h | h
        · exact absurd h.symm e
        · exact h)]
      omega
/-- a slot lowers a sum by one at most -/
theorem slot_one {srpt : Bool} {o : Pieces} {t : Int} (hs : Slot At Sz n srpt o t) {l : List Nat} (hn : l.Nodup) (hl : ∀ i ∈ l, i < n) : sumL (fun i => rem Sz o i t) l - 1 ≤ sumL (fun i => rem Sz o i (t + 1)) l := by
  rcases hs with h | ⟨j, _, _, _, h1, h2, _⟩
  · have := sumL_congr (l := l) (fun i hi => (h i (hl i hi)).1)
    omega
  · by_cases hj : j ∈ l
    · have e1 := sumL_erase (f := fun i => rem Sz o i t) hj
      have e2 := sumL_erase (f := fun i => rem Sz o i (t + 1)) hj
      have e3 : sumL (fun i => rem Sz o i (t + 1)) (l.erase j) = sumL (fun i => rem Sz o i t) (l.erase j) := sumL_congr (fun i hi => h2 i (fun e => by subst e; exact hn.not_mem_erase hi))
      omega
    · have := sumL_congr (f := fun i => rem Sz o i (t + 1)) (g := fun i => rem Sz o i t) (l := l) (fun i hi => h2 i (fun e => hj (by subst e; exact hi)))
      omega
structure Sub (At : Nat → Int) (n : Nat) (t : Int) (l : List Nat) : Prop where
  nodup : l.Nodup
  mem : ∀ i ∈ l, i < n ∧ At i ≤ t
theorem slots_mono {o : Pieces} {t : Int} {i : Nat} : rem Sz o i (t + 1) ≤ rem Sz o i t := by
  have := got_mono (o := o) (i := i) (show t ≤ t + 1 by omega)
  unfold rem; omega
theorem srpt_step {T : Int} {oA oB : Pieces} {sB : Bool} (hA : Full At Sz n true T oA) (hB : Full At Sz n sB T oB) {t : Int} (ht0 : 0 ≤ t) (htT : t < T)
    (ih : ∀ S, Sub At n t S → ∃ S', Sub At n t S' ∧ S'.length = S.length ∧ sumL (fun i => rem Sz oA i t) S' ≤ sumL (fun i => rem Sz oB i t) S) :
    ∀ S, Sub At n t S → ∃ S', Sub At n t S' ∧ S'.length = S.length ∧ sumL (fun i => rem Sz oA i (t + 1)) S' ≤ sumL (fun i => rem Sz oB i (t + 1)) S := by
  intro S hS
  obtain ⟨S', hS', hlen, hle⟩ := ih S hS
  have hB1 := slot_one (hB.slots t ht0 htT) hS.nodup (fun i hi => (hS.mem i hi).1)
  have hB0 : 0 ≤ sumL (fun i => rem Sz oB i (t + 1)) S := sumL_nonneg (fun i hi => hB.nonneg (hS.mem i hi).1 (by omega))
  have hAn : ∀ i ∈ S', 0 ≤ rem Sz oA i t := fun i hi => hA.nonneg (hS'.mem i hi).1 (by omega)
  have hmono : sumL (fun i => rem Sz oA i (t + 1)) S' ≤ sumL (fun i => rem Sz oA i t) S' := sumL_le (fun i _ => slots_mono)
  by_cases hz : sumL (fun i => rem Sz oA i t) S' ≤ 0
  · exact ⟨S', hS', hlen, by omega⟩
  · rcases hA.slots t ht0 htT with h | ⟨j, hj, hjt, hjp, hj1, hj2, hj3⟩
    · have : sumL (fun i => rem Sz oA i t) S' = sumL (fun _ => 0) S' := sumL_congr (fun i hi => (h i (hS'.mem i hi).1).2 (hS'.mem i hi).2)
      have hz0 : sumL (fun _ => 0) S' = 0 := by
        clear this hz hmono hAn hle hlen hS'
        induction S' with
        | nil => rfl
        | cons x l ih => rw [sumL_cons, ih]; rfl
      omega
    · by_cases hjS : j ∈ S'
      · refine ⟨S', hS', hlen, ?_⟩
        have e1 := sumL_erase (f := fun i => rem Sz oA i t) hjS
        have e2 := sumL_erase (f := fun i => rem Sz oA i (t + 1)) hjS
        have e3 : sumL (fun i => rem Sz oA i (t + 1)) (S'.erase j) = sumL (fun i => rem Sz oA i t) (S'.erase j) := sumL_congr (fun i hi => hj2 i (fun e => by subst e; exact hS'.nodup.not_mem_erase hi))
        omega
      · -- somebody in S' has more left than j
        have hex : ∃ i ∈ S', 0 < rem Sz oA i t := by
          apply Classical.byContradiction
          intro hno
          apply hz
          have : ∀ i ∈ S', rem Sz oA i t ≤ (fun _ => (0 : Int)) i := fun i hi => by
            have h0 : ¬ 0 < rem Sz oA i t := fun h => hno ⟨i, hi, h⟩
            show rem Sz oA i t ≤ 0
            omega
          have h1 := sumL_le this
          have hz0 : sumL (fun _ => (0 : Int)) S' = 0 := by
            clear this h1 hz hmono hAn hle hlen hS' hno hjS
            induction S' with
            | nil => rfl
            | cons x l ih => rw [sumL_cons, ih]; rfl
          omega
        obtain ⟨i, hi, hip⟩ := hex
        have hji := hj3 rfl i (hS'.mem i hi).1 (hS'.mem i hi).2 hip
        refine ⟨j :: S'.erase i, ⟨List.nodup_cons.2 ⟨fun h => hjS (List.mem_of_mem_erase h), hS'.nodup.erase _⟩, fun x hx => ?_⟩, ?_, ?_⟩
        · rcases List.mem_cons.1 hx with rfl | hx
          · exact ⟨hj, hjt⟩
          · exact hS'.mem x (List.mem_of_mem_erase hx)
        · rw [List.length_cons, List.length_erase_of_mem hi]
          have := List.length_pos_of_mem hi
          omega
        · rw [sumL_cons]
          have e1 := sumL_erase (f := fun i => rem Sz oA i t) hi
          have e3 : sumL (fun i => rem Sz oA i (t + 1)) (S'.erase i) ≤ sumL (fun i => rem Sz oA i t) (S'.erase i) := sumL_le (fun i _ => slots_mono)
          omega
theorem srpt_inv (hJ : Jobs At Sz n) {T : Int} {oA oB : Pieces} {sB : Bool} (hA : Full At Sz n true T oA) (hB : Full At Sz n sB T oB) : ∀ (t : Nat), (t : Int) ≤ T →
    ∀ S, Sub At n t S → ∃ S', Sub At n t S' ∧ S'.length = S.length ∧ sumL (fun i => rem Sz oA i t) S' ≤ sumL (fun i => rem Sz oB i t) S
  | 0, _, S, hS => by
    refine ⟨S, hS, rfl, Int.le_of_eq (sumL_congr (fun i hi => ?_))⟩
    have h0 := hJ.zero i (hS.mem i hi).1
    rw [hA.late (by simpa using h0), hB.late (by simpa using h0)]
  | t + 1, ht, S, hS => by
    have key := srpt_step hA hB (t := t) (by omega) (by omega) (srpt_inv hJ hA hB t (by omega))
    obtain ⟨S', hS', hlen, hle⟩ := key (S.filter fun i => decide (At i ≤ t)) ⟨hS.nodup.filter _, fun i hi => by
      obtain ⟨h1, h2⟩ := List.mem_filter.1 hi
      exact ⟨(hS.mem i h1).1, of_decide_eq_true h2⟩⟩
    have hsplit : ∀ f : Nat → Int, sumL f S = sumL f (S.filter fun i => decide (At i ≤ t)) + sumL f (S.filter fun i => !decide (At i ≤ t)) := fun f => by
      clear key hlen hle hS
      induction S with
      | nil => rfl
      | cons x l ih =>
        by_cases hx : At x ≤ t <;> simp [hx, sumL_cons, ih] <;> omega
    have hlsplit : S.length = (S.filter fun i => decide (At i ≤ t)).length + (S.filter fun i => !decide (At i ≤ t)).length := by
      clear key hlen hle hS hsplit
      induction S with
      | nil => rfl
      | cons x l ih =>
        by_cases hx : At x ≤ t <;> simp [hx] <;> omega
    refine ⟨S' ++ S.filter fun i => !decide (At i ≤ t), ⟨?_, fun i hi => ?_⟩, by rw [List.length_append, hlen]; exact hlsplit.symm, ?_⟩
    · rw [List.nodup_append]
      refine ⟨hS'.nodup, hS.nodup.filter _, fun x hx y hy e => ?_⟩
      subst e
      have h1 := (hS'.mem x hx).2
      have h2 := (List.mem_filter.1 hy).2
      simp at h2
      omega
    · rcases List.mem_append.1 hi with hi | hi
      · have := hS'.mem i hi
        exact ⟨this.1, by omega⟩
      · exact hS.mem i (List.mem_filter.1 hi).1
    · rw [sumL_append, hsplit (fun i => rem Sz oB i ((t + 1 : Nat) : Int))]
      have e : sumL (fun i => rem Sz oA i ((t + 1 : Nat) : Int)) (S.filter fun i => !decide (At i ≤ t)) = sumL (fun i => rem Sz oB i ((t + 1 : Nat) : Int)) (S.filter fun i => !decide (At i ≤ t)) := sumL_congr (fun i hi => by
        have h2 := (List.mem_filter.1 hi).2
        simp at h2
        rw [hA.late (by omega), hB.late (by omega)])
      have e2 : ((t + 1 : Nat) : Int) = (t : Int) + 1 := by omega
      rw [e2] at e ⊢
      omega
theorem nodup_sub {a b : List Nat} (hn : a.Nodup) (hs : ∀ x ∈ a, x ∈ b) : a.length ≤ b.length := by
  induction a generalizing b with
  | nil => simp
  | cons x a ih =>
    have hn' := List.nodup_cons.1 hn
    have hx := hs x (List.mem_cons_self ..)
    have := ih hn'.2 (b := b.erase x) (fun y hy => (List.mem_erase_of_ne (fun (e : y = x) => hn'.1 (e ▸ hy))).2 (hs y (List.mem_cons_of_mem _ hy)))
    rw [List.length_erase_of_mem hx] at this
    have := List.length_pos_of_mem hx
    simp only [List.length_cons]; omega
theorem srpt_count (hJ : Jobs At Sz n) {T : Int} {oA oB : Pieces} {sB : Bool} (hA : Full At Sz n true T oA) (hB : Full At Sz n sB T oB) (t : Nat) (ht : (t : Int) ≤ T) :
    (List.range n).countP (fun i => decide ((t : Int) < endOf oA i)) ≤ (List.range n).countP (fun i => decide ((t : Int) < endOf oB i)) := by
  have hz : ∀ i, i < n → ((t : Int) < endOf oB i ↔ 0 < rem Sz oB i t) := fun i hi => (hB.pos_iff hi (by omega) ht).symm
  have hza : ∀ i, i < n → ((t : Int) < endOf oA i ↔ 0 < rem Sz oA i t) := fun i hi => (hA.pos_iff hi (by omega) ht).symm
  obtain ⟨S', hS', hlen, hle⟩ := srpt_inv hJ hA hB t ht ((List.range n).filter fun i => !decide ((t : Int) < endOf oB i)) ⟨List.nodup_range.filter _, fun i hi => by
    obtain ⟨h1, h2⟩ := List.mem_filter.1 hi
    have hi' := List.mem_range.1 h1
    simp only [Bool.not_eq_true', decide_eq_false_iff_not] at h2
    refine ⟨hi', Classical.byContradiction fun hno => h2 ((hz i hi').2 ?_)⟩
    rw [hB.late (by omega)]
    have := hJ.size i hi'
    omega⟩
  have hB0 : sumL (fun i => rem Sz oB i t) ((List.range n).filter fun i => !decide ((t : Int) < endOf oB i)) ≤ 0 := by
    have : ∀ i ∈ ((List.range n).filter fun i => !decide ((t : Int) < endOf oB i)), rem Sz oB i t ≤ (fun _ => (0 : Int)) i := fun i hi => by
      obtain ⟨h1, h2⟩ := List.mem_filter.1 hi
      simp only [Bool.not_eq_true', decide_eq_false_iff_not] at h2
      have h0 : ¬ 0 < rem Sz oB i t := fun h => h2 ((hz i (List.mem_range.1 h1)).2 h)
      show rem Sz oB i t ≤ 0
      omega
    have h1 := sumL_le this
    have hz0 : ∀ l : List Nat, sumL (fun _ => (0 : Int)) l = 0 := fun l => by
      induction l with
      | nil => rfl
      | cons x l ih => rw [sumL_cons, ih]; rfl
    rw [hz0] at h1
    exact h1
  have hall := sumL_zero (fun i hi => hA.nonneg (hS'.mem i hi).1 ht) (Int.le_trans hle hB0)
  have hsub := nodup_sub (b := (List.range n).filter fun i => !decide ((t : Int) < endOf oA i)) hS'.nodup (fun i hi => List.mem_filter.2 ⟨List.mem_range.2 (hS'.mem i hi).1, by
    have h1 := hall i hi
    simp only [Bool.not_eq_true', decide_eq_false_iff_not]
    intro h
    have := (hza i (hS'.mem i hi).1).1 h
    omega⟩)
  rw [hlen] at hsub
  have c : ∀ p : Nat → Bool, (List.range n).countP p + ((List.range n).filter fun i => !p i).length = n := fun p => by
    have := List.length_eq_countP_add_countP p (l := List.range n)
    rw [List.length_range] at this
    rw [← List.countP_eq_length_filter]
    have e : (List.range n).countP (fun i => !p i) = (List.range n).countP (fun a => decide ¬ p a = true) := List.countP_congr (fun x _ => by simp)
    rw [e]; omega
  have c1 := c (fun i => decide ((t : Int) < endOf oA i))
  have c2 := c (fun i => decide ((t : Int) < endOf oB i))
  omega
/-- a number as a count of what is below it -/
theorem count_below (e : Int) (h0 : 0 ≤ e) : ∀ T : Nat, ((List.range T).countP (fun (t : Nat) => decide ((t : Int) < e)) : Int) = min e T
  | 0 => by simp; omega
  | T + 1 => by
    rw [List.range_succ, List.countP_append, List.countP_singleton]
    have := count_below e h0 T
    split
    · rename_i h
      have := of_decide_eq_true h
      omega
    · rename_i h
      have : ¬ (T : Int) < e := fun hh => h (decide_eq_true hh)
      omega
theorem sum_count (p : Nat → Nat → Bool) (n : Nat) : ∀ T : Nat, ((List.range T).map fun t => ((List.range n).countP (fun i => p i t) : Int)).sum = ((List.range n).map fun i => ((List.range T).countP (fun t => p i t) : Int)).sum
  | 0 => by
    induction n with
    | zero => rfl
    | succ n ih => rw [List.range_succ]; simp at ih ⊢; exact ih
  | T + 1 => by
    have hTT := sum_count p n T
    rw [List.range_succ, List.map_append, List.sum_append, hTT]
    clear hTT
    induction n with
    | zero => rfl
    | succ n ih =>
      rw [List.range_succ (n := n), List.map_append, List.map_append, List.sum_append, List.sum_append, ← ih]
      simp only [List.map_cons, List.map_nil, List.sum_cons, List.sum_nil, List.countP_append, List.countP_singleton]
      split <;> simp <;> omega
theorem srpt_best (hJ : Jobs At Sz n) {T : Int} {oA oB : Pieces} {sB : Bool} (hA : Full At Sz n true T oA) (hB : Full At Sz n sB T oB) : sumL (endOf oA) (List.range n) ≤ sumL (endOf oB) (List.range n) := by
  obtain ⟨U, hU⟩ : ∃ U : Nat, T = U := ⟨T.toNat, by have := hA.T0; omega⟩
  have e : ∀ {s : Bool} {o : Pieces}, Full At Sz n s T o → sumL (endOf o) (List.range n) = ((List.range U).map fun (t : Nat) => ((List.range n).countP (fun i => decide ((t : Int) < endOf o i)) : Int)).sum := fun {s o} h => by
    rw [sum_count (fun i t => decide ((t : Int) < endOf o i)) n U]
    unfold sumL
    congr 1
    apply List.map_congr_left
    intro i _
    rw [count_below _ (endOf_spec o i).1]
    have := h.end_le i
    omega
  rw [e hA, e hB]
  have hc : ∀ t ∈ List.range U, ((List.range n).countP (fun i => decide ((t : Int) < endOf oA i)) : Int) ≤ ((List.range n).countP (fun i => decide ((t : Int) < endOf oB i)) : Int) := fun t ht => by
    have := srpt_count hJ hA hB t (by have := List.mem_range.1 ht; omega)
    omega
  exact sumL_le (f := fun t => ((List.range n).countP (fun i => decide ((t : Int) < endOf oA i)) : Int)) (g := fun t => ((List.range n).countP (fun i => decide ((t : Int) < endOf oB i)) : Int)) hc
end
end Go.Proofs.Ytekjddcckkelnaa.PathM
