/- The plain law of trees: labelling, cuts, centers, medians. -/
namespace Go.Proofs.Ytfkeplcalmlojaa.TreeM
structure Ed where
  u : Nat
  v : Nat
  l : Int

def rel (s : List Int × Bool) (x y : Nat) (L : Int) : List Int × Bool :=
  if 0 ≤ s.1.getD x 0 ∧ s.1.getD y 0 < 0 then (s.1.set y (s.1.getD x 0 + L), true) else s
def step (s : List Int × Bool) (e : Ed) : List Int × Bool := rel (rel s e.u e.v e.l) e.v e.u e.l
def pass (es : List Ed) (o : List Int) : List Int × Bool := es.foldl step (o, false)
def loop : Nat → List Ed → List Int → List Int
  | 0, _, o => o
  | k + 1, es, o => if (pass es o).2 then loop k es (pass es o).1 else (pass es o).1
def init (n r : Nat) : List Int := (List.replicate n (-1)).set r 0
def frm (n : Nat) (es : List Ed) (r : Nat) : List Int := loop (n + 1) es (init n r)

def neg (o : List Int) : Nat := o.countP (· < 0)

/-- Any invariant of single labellings holds at the end. -/
theorem inv_step (es : List Ed) (P : List Int → Prop)
    (hs : ∀ o e x y, e ∈ es → ((x = e.u ∧ y = e.v) ∨ (x = e.v ∧ y = e.u)) → P o → 0 ≤ o.getD x 0 → o.getD y 0 < 0 → P (o.set y (o.getD x 0 + e.l))) :
    ∀ (l : List Ed) (s : List Int × Bool), (∀ e ∈ l, e ∈ es) → P s.1 → P (l.foldl step s).1 := by
  have hr : ∀ s e x y, e ∈ es → ((x = e.u ∧ y = e.v) ∨ (x = e.v ∧ y = e.u)) → P s.1 → P (rel s x y e.l).1 := by
    intro s e x y he hxy hp
    unfold rel
    split
    · rename_i h; exact hs _ e x y he hxy hp h.1 h.2
    · exact hp
  intro l
  induction l with
  | nil => intro s _ h; exact h
  | cons e l ih =>
    intro s hm h
    refine ih _ (fun e he => hm e (List.mem_cons_of_mem _ he)) ?_
    exact hr _ e _ _ (hm e (List.mem_cons_self ..)) (.inr ⟨rfl, rfl⟩) (hr _ e _ _ (hm e (List.mem_cons_self ..)) (.inl ⟨rfl, rfl⟩) h)

theorem inv_loop (es : List Ed) (P : List Int → Prop)
    (hs : ∀ o e x y, e ∈ es → ((x = e.u ∧ y = e.v) ∨ (x = e.v ∧ y = e.u)) → P o → 0 ≤ o.getD x 0 → o.getD y 0 < 0 → P (o.set y (o.getD x 0 + e.l))) :
    ∀ (k : Nat) (o : List Int), P o → P (loop k es o) := by
  intro k
  induction k with
  | zero => intro o h; exact h
  | succ k ih =>
    intro o h
    have hp : P (pass es o).1 := inv_step es P hs es (o, false) (fun _ h => h) h
    unfold loop
    split
    · exact ih _ hp
    · exact hp

theorem frm_inv (n : Nat) (es : List Ed) (r : Nat) (P : List Int → Prop) (h0 : P (init n r))
    (hs : ∀ o e x y, e ∈ es → ((x = e.u ∧ y = e.v) ∨ (x = e.v ∧ y = e.u)) → P o → 0 ≤ o.getD x 0 → o.getD y 0 < 0 → P (o.set y (o.getD x 0 + e.l))) :
    P (frm n es r) := inv_loop es P hs _ _ h0

/-! termination -/
theorem neg_set (o : List Int) (y : Nat) (v : Int) (hy : y < o.length) (h : o.getD y 0 < 0) (hv : 0 ≤ v) : neg (o.set y v) + 1 = neg o := by
  induction o generalizing y with
  | nil => simp at hy
  | cons a o ih =>
    cases y with
    | zero =>
      simp at h
      simp [neg, List.set, List.countP_cons, h]
      omega
    | succ y =>
      simp at h hy
      have := ih y (by omega) (by simpa using h)
      simp only [neg, List.set, List.countP_cons] at this ⊢
      omega

def Good (n : Nat) (es : List Ed) : Prop := ∀ e ∈ es, e.u < n ∧ e.v < n ∧ 0 ≤ e.l

/-- After a list of steps: the flag stands and fewer are below 0, or all is as it was and nothing could be labelled. -/
theorem steps_alt (n : Nat) (es : List Ed) (hg : Good n es) :
    ∀ (o : List Int) (f : Bool), o.length = n →
      ((es.foldl step (o, f)).1.length = n) ∧
      (((es.foldl step (o, f)).2 = true ∧ neg (es.foldl step (o, f)).1 < neg o) ∨
       (es.foldl step (o, f) = (o, f) ∧ ∀ e ∈ es, ¬ (0 ≤ o.getD e.u 0 ∧ o.getD e.v 0 < 0) ∧ ¬ (0 ≤ o.getD e.v 0 ∧ o.getD e.u 0 < 0)) ) := by
  have hrel : ∀ (o : List Int) (f : Bool) (x y : Nat) (L : Int), o.length = n → y < n → 0 ≤ L →
      (rel (o, f) x y L).1.length = n ∧ (((rel (o, f) x y L).2 = true ∧ neg (rel (o, f) x y L).1 < neg o) ∨ (rel (o, f) x y L = (o, f) ∧ ¬ (0 ≤ o.getD x 0 ∧ o.getD y 0 < 0))) := by
    intro o f x y L ho hy hL
    unfold rel
    by_cases hc : 0 ≤ o.getD x 0 ∧ o.getD y 0 < 0
    · rw [if_pos hc]
      refine ⟨by simp [ho], .inl ⟨rfl, ?_⟩⟩
      have := neg_set o y (o.getD x 0 + L) (by omega) hc.2 (by omega)
      show neg (o.set y (o.getD x 0 + L)) < neg o
      omega
    · rw [if_neg hc]
      exact ⟨ho, .inr ⟨rfl, hc⟩⟩
  have hstep : ∀ (o : List Int) (f : Bool) (e : Ed), e.u < n → e.v < n → 0 ≤ e.l → o.length = n →
      (step (o, f) e).1.length = n ∧ (((step (o, f) e).2 = true ∧ neg (step (o, f) e).1 < neg o) ∨ (step (o, f) e = (o, f) ∧ ¬ (0 ≤ o.getD e.u 0 ∧ o.getD e.v 0 < 0) ∧ ¬ (0 ≤ o.getD e.v 0 ∧ o.getD e.u 0 < 0))) := by
    intro o f e hu hv hl ho
    unfold step
    obtain ⟨h1, h2⟩ := hrel o f e.u e.v e.l ho hv hl
    generalize hs : rel (o, f) e.u e.v e.l = s at h1 h2 ⊢
    obtain ⟨o1, f1⟩ := s
    obtain ⟨h3, h4⟩ := hrel o1 f1 e.v e.u e.l h1 hu hl
    refine ⟨h3, ?_⟩
    rcases h4 with ⟨h4, h5⟩ | ⟨h4, h5⟩
    · refine .inl ⟨h4, ?_⟩
      rcases h2 with ⟨_, h6⟩ | ⟨h6, _⟩
      · exact Nat.lt_trans h5 h6
      · simp only [Prod.mk.injEq] at h6; rw [h6.1] at h5; rw [h6.1]; exact h5
    · rw [h4]
      rcases h2 with ⟨h6, h7⟩ | ⟨h6, h7⟩
      · exact .inl ⟨h6, h7⟩
      · simp only [Prod.mk.injEq] at h6
        obtain ⟨rfl, rfl⟩ := h6
        exact .inr ⟨rfl, h7, h5⟩
  induction es with
  | nil => intro o f ho; exact ⟨ho, .inr ⟨rfl, by simp⟩⟩
  | cons e es ih =>
    intro o f ho
    have hge := hg e (List.mem_cons_self ..)
    obtain ⟨h1, h2⟩ := hstep o f e hge.1 hge.2.1 hge.2.2 ho
    rw [List.foldl_cons]
    generalize hs : step (o, f) e = s at h1 h2 ⊢
    obtain ⟨o1, f1⟩ := s
    obtain ⟨h3, h4⟩ := ih (fun e he => hg e (List.mem_cons_of_mem _ he)) o1 f1 h1
    refine ⟨h3, ?_⟩
    rcases h4 with ⟨h4, h5⟩ | ⟨h4, h5⟩
    · refine .inl ⟨h4, ?_⟩
      rcases h2 with ⟨_, h6⟩ | ⟨h6, _⟩
      · exact Nat.lt_trans h5 h6
      · simp only [Prod.mk.injEq] at h6; obtain ⟨rfl, rfl⟩ := h6; exact h5
    · rw [h4]
      rcases h2 with ⟨h6, h7⟩ | ⟨h6, h7⟩
      · exact .inl ⟨h6, h7⟩
      · simp only [Prod.mk.injEq] at h6
        obtain ⟨rfl, rfl⟩ := h6
        refine .inr ⟨rfl, fun e' he' => ?_⟩
        rcases List.mem_cons.1 he' with rfl | he'
        · exact h7
        · exact h5 e' he'

theorem pass_alt (n : Nat) (es : List Ed) (hg : Good n es) (o : List Int) (ho : o.length = n) :
    (pass es o).1.length = n ∧ (((pass es o).2 = true ∧ neg (pass es o).1 < neg o) ∨
       (pass es o = (o, false) ∧ ∀ e ∈ es, ¬ (0 ≤ o.getD e.u 0 ∧ o.getD e.v 0 < 0) ∧ ¬ (0 ≤ o.getD e.v 0 ∧ o.getD e.u 0 < 0))) :=
  steps_alt n es hg o false ho

def Closed (es : List Ed) (o : List Int) : Prop := ∀ e ∈ es, (0 ≤ o.getD e.u 0 ↔ 0 ≤ o.getD e.v 0)

theorem loop_closed (n : Nat) (es : List Ed) (hg : Good n es) : ∀ (k : Nat) (o : List Int), o.length = n → neg o < k →
    Closed es (loop k es o) ∧ (loop k es o).length = n := by
  intro k
  induction k with
  | zero => intro o _ h; omega
  | succ k ih =>
    intro o ho hk
    obtain ⟨h1, h2⟩ := pass_alt n es hg o ho
    unfold loop
    rcases h2 with ⟨h3, h4⟩ | ⟨h3, h4⟩
    · rw [if_pos h3]
      exact ih _ h1 (by omega)
    · rw [h3]
      refine ⟨fun e he => ?_, ho⟩
      have := h4 e he
      show 0 ≤ o.getD e.u 0 ↔ 0 ≤ o.getD e.v 0
      omega

theorem neg_le (o : List Int) : neg o ≤ o.length := List.countP_le_length

theorem init_len (n r : Nat) : (init n r).length = n := by simp [init]
theorem init_get (n r i : Nat) (hr : r < n) : (init n r).getD i 0 = if i = r then 0 else if i < n then -1 else 0 := by
  unfold init
  rw [List.getD_eq_getElem?_getD, List.getElem?_set]
  by_cases h : r = i
  · subst h; simp [hr]
  · rw [if_neg h, if_neg (fun e => h e.symm), List.getElem?_replicate]
    by_cases hi : i < n
    · rw [if_pos hi, if_pos hi]; rfl
    · rw [if_neg hi, if_neg hi]; rfl

theorem frm_closed (n : Nat) (es : List Ed) (hg : Good n es) (r : Nat) : Closed es (frm n es r) ∧ (frm n es r).length = n :=
  loop_closed n es hg (n + 1) (init n r) (init_len n r) (by have := neg_le (init n r); rw [init_len] at this; omega)

/-- more fuel changes nothing -/
theorem loop_fuel (n : Nat) (es : List Ed) (hg : Good n es) : ∀ (k : Nat) (o : List Int), o.length = n → neg o < k → ∀ j, k ≤ j → loop j es o = loop k es o := by
  intro k
  induction k with
  | zero => intro o _ h; omega
  | succ k ih =>
    intro o ho hk j hj
    obtain ⟨j, rfl⟩ : ∃ j', j = j' + 1 := ⟨j - 1, by omega⟩
    obtain ⟨h1, h2⟩ := pass_alt n es hg o ho
    unfold loop
    rcases h2 with ⟨h3, h4⟩ | ⟨h3, h4⟩
    · rw [if_pos h3, if_pos h3]
      exact ih _ h1 (by omega) j (by omega)
    · rw [h3]; rfl

/-! ### what is labelled -/
theorem getD_set (o : List Int) (y i : Nat) (v : Int) (hy : y < o.length) : (o.set y v).getD i 0 = if i = y then v else o.getD i 0 := by
  rw [List.getD_eq_getElem?_getD, List.getElem?_set]
  by_cases h : y = i
  · subst h; simp [hy]
  · rw [if_neg h, if_neg (fun e => h e.symm), List.getD_eq_getElem?_getD]

/-- each label is at least -1, the root's is 0; below 0 it is -1 -/
theorem frm_base (n : Nat) (es : List Ed) (hg : Good n es) (r : Nat) (hr : r < n) :
    (frm n es r).getD r 0 = 0 ∧ ∀ i, i < n → ((frm n es r).getD i 0 = -1 ∨ 0 ≤ (frm n es r).getD i 0) := by
  have h := frm_inv n es r (fun o => o.length = n ∧ o.getD r 0 = 0 ∧ ∀ i, i < n → (o.getD i 0 = -1 ∨ 0 ≤ o.getD i 0)) ?_ ?_
  · exact h.2
  · refine ⟨init_len n r, by rw [init_get n r r hr, if_pos rfl], fun i hi => ?_⟩
    rw [init_get n r i hr]
    split
    · exact .inr (Int.le_refl _)
    · simp
  · rintro o e x y he hxy ⟨h1, h2, h3⟩ hx hy
    have hge := hg e he
    have hyn : y < o.length := by rcases hxy with ⟨_, rfl⟩ | ⟨_, rfl⟩ <;> omega
    refine ⟨by simp [h1], ?_, fun i hi => ?_⟩
    · rw [getD_set o y r _ hyn, if_neg (by rintro rfl; omega)]; exact h2
    · rw [getD_set o y i _ hyn]
      split
      · right; omega
      · exact h3 i hi

/-- bound of the labels -/
theorem frm_bound (n : Nat) (es : List Ed) (hg : Good n es) (M : Int) (hM : 0 ≤ M) (hl : ∀ e ∈ es, e.l ≤ M) (r : Nat) (hr : r < n) :
    ∀ i, (frm n es r).getD i 0 ≤ n * M := by
  have h := frm_inv n es r (fun o => o.length = n ∧ ∀ i, (o.getD i 0 : Int) ≤ ((n : Int) - neg o) * M) ?_ ?_
  · intro i
    refine Int.le_trans (h.2 i) ?_
    refine Int.mul_le_mul_of_nonneg_right ?_ hM
    omega
  · refine ⟨init_len n r, fun i => ?_⟩
    have h1 : (init n r).getD i 0 ≤ 0 := by
      rw [init_get n r i hr]; split
      · omega
      · split <;> omega
    have h2 := neg_le (init n r)
    rw [init_len] at h2
    refine Int.le_trans h1 (Int.mul_nonneg (by omega) hM)
  · rintro o e x y he hxy ⟨h1, h3⟩ hx hy
    have hge := hg e he
    have hyn : y < o.length := by rcases hxy with ⟨_, rfl⟩ | ⟨_, rfl⟩ <;> omega
    have hn := neg_set o y (o.getD x 0 + e.l) hyn hy (by omega)
    refine ⟨by simp [h1], fun i => ?_⟩
    rw [getD_set o y i _ hyn]
    have hh : ((n : Int) - neg (o.set y (o.getD x 0 + e.l))) * M = ((n : Int) - neg o) * M + M := by
      have : ((n : Int) - neg (o.set y (o.getD x 0 + e.l))) = ((n : Int) - neg o) + 1 := by omega
      rw [this, Int.add_mul, Int.one_mul]
    rw [hh]
    split
    · have := h3 x; have := hl e he; omega
    · have := h3 i; omega

/-- what is labelled hangs together: whatever is the same along all edges is there what it is at the root -/
theorem frm_conn (n : Nat) (es : List Ed) (hg : Good n es) (r : Nat) (hr : r < n) (g : Nat → Bool) (hgc : ∀ e ∈ es, g e.u = g e.v) :
    ∀ i, i < n → 0 ≤ (frm n es r).getD i 0 → g i = g r := by
  have h := frm_inv n es r (fun o => o.length = n ∧ ∀ i, i < n → 0 ≤ o.getD i 0 → g i = g r) ?_ ?_
  · exact h.2
  · refine ⟨init_len n r, fun i hi h => ?_⟩
    rw [init_get n r i hr] at h
    by_cases hir : i = r
    · rw [hir]
    · rw [if_neg hir, if_pos hi] at h; omega
  · rintro o e x y he hxy ⟨h1, h3⟩ hx hy
    have hge := hg e he
    have hyn : y < o.length := by rcases hxy with ⟨_, rfl⟩ | ⟨_, rfl⟩ <;> omega
    have hxn : x < n := by rcases hxy with ⟨rfl, _⟩ | ⟨rfl, _⟩ <;> omega
    refine ⟨by simp [h1], fun i hi h => ?_⟩
    rw [getD_set o y i _ hyn] at h
    split at h
    · rename_i hiy
      subst hiy
      rw [← h3 x hxn hx]
      rcases hxy with ⟨rfl, rfl⟩ | ⟨rfl, rfl⟩
      · exact (hgc e he).symm
      · exact hgc e he
    · exact h3 i hi h

/-! ### counting: as many are labelled as edges were used, and one -/
theorem nodup_le : ∀ (m : Nat) (l : List Nat), l.Nodup → (∀ x ∈ l, x < m) → l.length ≤ m := by
  intro m
  induction m with
  | zero => intro l _ h; cases l with
    | nil => exact Nat.le_refl _
    | cons a l => exact absurd (h a (List.mem_cons_self ..)) (by omega)
  | succ m ih =>
    intro l hn h
    have h1 : (l.erase m).Nodup := hn.erase m
    have h2 : ∀ x ∈ l.erase m, x < m := fun x hx => by
      have hx1 := h x (List.mem_of_mem_erase hx)
      have hx2 : x ≠ m := fun e => by subst e; exact (hn.not_mem_erase hx)
      omega
    have h3 := ih _ h1 h2
    have h4 := List.length_erase (a := m) (l := l)
    split at h4 <;> omega

/-- The edge k is one of the list. -/
def At (es : List Ed) (k : Nat) (e : Ed) : Prop := es[k]? = some e

theorem mem_at {es : List Ed} {e : Ed} (h : e ∈ es) : ∃ k, k < es.length ∧ es[k]? = some e := by
  obtain ⟨k, hk, he⟩ := List.getElem_of_mem h
  exact ⟨k, hk, by rw [List.getElem?_eq_getElem hk, he]⟩

/-- What was used: each used edge joins labelled ones; what is the same along the used ones is the same where labels are; as many labels as used edges and one. -/
def Used (n : Nat) (es : List Ed) (r : Nat) (used : List Nat) (o : List Int) : Prop :=
  o.length = n ∧ used.Nodup ∧ (∀ k ∈ used, k < es.length) ∧
  (∀ k ∈ used, ∀ e, es[k]? = some e → 0 ≤ o.getD e.u 0 ∧ 0 ≤ o.getD e.v 0) ∧
  (∀ g : Nat → Bool, (∀ k ∈ used, ∀ e, es[k]? = some e → g e.u = g e.v) → ∀ i, i < n → 0 ≤ o.getD i 0 → g i = g r) ∧
  n = neg o + used.length + 1

theorem frm_used (n : Nat) (es : List Ed) (hg : Good n es) (r : Nat) (hr : r < n) (hinit : neg (init n r) + 1 = n) :
    ∃ used, Used n es r used (frm n es r) := by
  refine frm_inv n es r (fun o => ∃ used, Used n es r used o) ?_ ?_
  · refine ⟨[], init_len n r, List.nodup_nil, by simp, by simp, fun g _ i hi h => ?_, ?_⟩
    · rw [init_get n r i hr] at h
      by_cases hir : i = r
      · rw [hir]
      · rw [if_neg hir, if_pos hi] at h; omega
    · simp only [List.length_nil]; omega
  · rintro o e x y he hxy ⟨used, h1, h2, h3, h4, h5, h6⟩ hx hy
    have hge := hg e he
    have hyn : y < o.length := by rcases hxy with ⟨_, rfl⟩ | ⟨_, rfl⟩ <;> omega
    have hxn : x < n := by rcases hxy with ⟨rfl, _⟩ | ⟨rfl, _⟩ <;> omega
    obtain ⟨k, hk, hke⟩ := mem_at he
    have hnk : k ∉ used := fun hm => by
      have := h4 k hm e hke
      rcases hxy with ⟨_, rfl⟩ | ⟨_, rfl⟩ <;> omega
    have hn := neg_set o y (o.getD x 0 + e.l) hyn hy (by omega)
    have hmono : ∀ i, 0 ≤ o.getD i 0 → 0 ≤ (o.set y (o.getD x 0 + e.l)).getD i 0 := fun i hi => by
      rw [getD_set o y i _ hyn]; split <;> omega
    have hy0 : 0 ≤ (o.set y (o.getD x 0 + e.l)).getD y 0 := by rw [getD_set o y y _ hyn, if_pos rfl]; omega
    refine ⟨k :: used, by simp [h1], List.nodup_cons.2 ⟨hnk, h2⟩, ?_, ?_, ?_, ?_⟩
    · intro j hj
      rcases List.mem_cons.1 hj with rfl | hj
      · exact hk
      · exact h3 j hj
    · intro j hj e' he'
      rcases List.mem_cons.1 hj with rfl | hj
      · rw [hke] at he'
        injection he' with he'
        subst he'
        rcases hxy with ⟨rfl, rfl⟩ | ⟨rfl, rfl⟩
        · exact ⟨hmono _ hx, hy0⟩
        · exact ⟨hy0, hmono _ hx⟩
      · exact ⟨hmono _ (h4 j hj e' he').1, hmono _ (h4 j hj e' he').2⟩
    · intro g hgk i hi h
      have hold := h5 g (fun j hj e' he' => hgk j (List.mem_cons_of_mem _ hj) e' he')
      rw [getD_set o y i _ hyn] at h
      split at h
      · rename_i hiy
        subst hiy
        have := hgk k (List.mem_cons_self ..) e hke
        rw [← hold x hxn hx]
        rcases hxy with ⟨rfl, rfl⟩ | ⟨rfl, rfl⟩
        · exact this.symm
        · exact this
      · exact hold i hi h
    · simp only [List.length_cons]; omega

theorem neg_replicate (n : Nat) : neg (List.replicate n (-1)) = n := by
  unfold neg
  rw [List.countP_replicate]
  simp

theorem neg_init (n r : Nat) (hr : r < n) : neg (init n r) + 1 = n := by
  have h : (List.replicate n (-1 : Int)).getD r 0 < 0 := by
    rw [List.getD_eq_getElem?_getD, List.getElem?_replicate, if_pos hr]; simp
  have := neg_set (List.replicate n (-1)) r 0 (by simpa using hr) h (Int.le_refl _)
  rw [neg_replicate] at this
  exact this

/-! ### the length by cuts -/
def sm : Nat → (Nat → Int) → Int
  | 0, _ => 0
  | n + 1, f => sm n f + f n
theorem sm_congr {f g : Nat → Int} : ∀ (n : Nat), (∀ i, i < n → f i = g i) → sm n f = sm n g
  | 0, _ => rfl
  | n + 1, h => by rw [sm, sm, sm_congr n (fun i hi => h i (by omega)), h n (by omega)]
theorem sm_le {f g : Nat → Int} : ∀ (n : Nat), (∀ i, i < n → f i ≤ g i) → sm n f ≤ sm n g
  | 0, _ => Int.le_refl _
  | n + 1, h => by
    have h1 := sm_le n (fun i hi => h i (by omega))
    have h2 := h n (by omega)
    rw [sm, sm]; omega
theorem sm_add (f g : Nat → Int) : ∀ (n : Nat), sm n (fun i => f i + g i) = sm n f + sm n g
  | 0 => rfl
  | n + 1 => by rw [sm, sm, sm, sm_add f g n]; omega
theorem sm_sub (f g : Nat → Int) : ∀ (n : Nat), sm n (fun i => f i - g i) = sm n f - sm n g
  | 0 => rfl
  | n + 1 => by rw [sm, sm, sm, sm_sub f g n]; omega
theorem sm_mul (c : Int) (f : Nat → Int) : ∀ (n : Nat), sm n (fun i => c * f i) = c * sm n f
  | 0 => by simp [sm]
  | n + 1 => by rw [sm, sm, sm_mul c f n, Int.mul_add]
theorem sm_zero : ∀ (n : Nat), sm n (fun _ => 0) = 0
  | 0 => rfl
  | n + 1 => by rw [sm, sm_zero n]; rfl
theorem sm_nonneg {f : Nat → Int} (n : Nat) (h : ∀ i, i < n → 0 ≤ f i) : 0 ≤ sm n f := by
  rw [← sm_zero n]; exact sm_le n h
theorem sm_comm (f : Nat → Nat → Int) (m : Nat) : ∀ (n : Nat), sm n (fun i => sm m (f i)) = sm m (fun k => sm n (fun i => f i k))
  | 0 => (sm_zero m).symm
  | n + 1 => by
    rw [sm, sm_comm f m n, ← sm_add]
    rfl
theorem sm_add_one {f g : Nat → Int} (k : Nat) (L : Int) : ∀ (m : Nat), k < m → (∀ j, j < m → j ≠ k → f j = g j) → f k = g k + L → sm m f = sm m g + L := by
  intro m
  induction m with
  | zero => intro h; omega
  | succ m ih =>
    intro hk hf hL
    rw [sm, sm]
    by_cases h : k = m
    · subst h
      rw [sm_congr k (fun j hj => hf j (by omega) (by omega)), hL]; omega
    · rw [ih (by omega) (fun j hj hn => hf j (by omega) hn) hL, hf m (by omega) (fun e => h e.symm)]; omega

def len1 (es : List Ed) (k : Nat) : Int := (es[k]?.map Ed.l).getD 0
def cutLen (es : List Ed) (s : Nat → Nat → Bool) (x y : Nat) : Int := sm es.length fun k => if s k x = s k y then 0 else len1 es k

/-- 's k' parts the edge k's ends, and no other edge's. -/
def Sides (es : List Ed) (s : Nat → Nat → Bool) : Prop :=
  ∀ k e, es[k]? = some e → s k e.u ≠ s k e.v ∧ ∀ j e', es[j]? = some e' → j ≠ k → s k e'.u = s k e'.v

theorem frm_cut (n : Nat) (es : List Ed) (hg : Good n es) (r : Nat) (hr : r < n) (s : Nat → Nat → Bool) (hs : Sides es s) :
    ∀ i, i < n → 0 ≤ (frm n es r).getD i 0 → (frm n es r).getD i 0 = cutLen es s r i := by
  have hzero : cutLen es s r r = 0 := by
    unfold cutLen
    simp only [if_true]
    exact sm_zero _
  have h := frm_inv n es r (fun o => (∃ used, Used n es r used o) ∧ ∀ i, i < n → 0 ≤ o.getD i 0 → o.getD i 0 = cutLen es s r i) ?_ ?_
  · exact h.2
  · refine ⟨⟨[], init_len n r, List.nodup_nil, by simp, by simp, fun g _ i hi h => ?_, ?_⟩, fun i hi h => ?_⟩
    · rw [init_get n r i hr] at h
      by_cases hir : i = r
      · rw [hir]
      · rw [if_neg hir, if_pos hi] at h; omega
    · have := neg_init n r hr; simp; omega
    · rw [init_get n r i hr] at h ⊢
      by_cases hir : i = r
      · subst hir; simp [hzero]
      · rw [if_neg hir, if_pos hi] at h; omega
  · rintro o e x y he hxy ⟨⟨used, h1, h2, h3, h4, h5, h6⟩, h7⟩ hx hy
    have hge := hg e he
    have hyn : y < o.length := by rcases hxy with ⟨_, rfl⟩ | ⟨_, rfl⟩ <;> omega
    have hxn : x < n := by rcases hxy with ⟨rfl, _⟩ | ⟨rfl, _⟩ <;> omega
    obtain ⟨k, hk, hke⟩ := mem_at he
    have hnk : k ∉ used := fun hm => by
      have := h4 k hm e hke
      rcases hxy with ⟨_, rfl⟩ | ⟨_, rfl⟩ <;> omega
    have hn := neg_set o y (o.getD x 0 + e.l) hyn hy (by omega)
    have hmono : ∀ i, 0 ≤ o.getD i 0 → 0 ≤ (o.set y (o.getD x 0 + e.l)).getD i 0 := fun i hi => by
      rw [getD_set o y i _ hyn]; split <;> omega
    have hy0 : 0 ≤ (o.set y (o.getD x 0 + e.l)).getD y 0 := by rw [getD_set o y y _ hyn, if_pos rfl]; omega
    constructor
    · refine ⟨k :: used, by simp [h1], List.nodup_cons.2 ⟨hnk, h2⟩, ?_, ?_, ?_, ?_⟩
      · intro j hj
        rcases List.mem_cons.1 hj with rfl | hj
        · exact hk
        · exact h3 j hj
      · intro j hj e' he'
        rcases List.mem_cons.1 hj with rfl | hj
        · rw [hke] at he'
          injection he' with he'
          subst he'
          rcases hxy with ⟨rfl, rfl⟩ | ⟨rfl, rfl⟩
          · exact ⟨hmono _ hx, hy0⟩
          · exact ⟨hy0, hmono _ hx⟩
        · exact ⟨hmono _ (h4 j hj e' he').1, hmono _ (h4 j hj e' he').2⟩
      · intro g hgk i hi h
        have hold := h5 g (fun j hj e' he' => hgk j (List.mem_cons_of_mem _ hj) e' he')
        rw [getD_set o y i _ hyn] at h
        split at h
        · rename_i hiy
          subst hiy
          have := hgk k (List.mem_cons_self ..) e hke
          rw [← hold x hxn hx]
          rcases hxy with ⟨rfl, rfl⟩ | ⟨rfl, rfl⟩
          · exact this.symm
          · exact this
        · exact hold i hi h
      · simp only [List.length_cons]; omega
    · intro i hi h
      rw [getD_set o y i _ hyn] at h ⊢
      split
      · rename_i hiy
        subst hiy
        rw [h7 x hxn hx]
        have hrx : s k r = s k x := (h5 (s k) (fun j hj e' he' => (hs k e hke).2 j e' he' (by rintro rfl; exact hnk hj)) x hxn hx).symm
        have hxy' : s k x ≠ s k i := by
          have := (hs k e hke).1
          rcases hxy with ⟨rfl, rfl⟩ | ⟨rfl, rfl⟩
          · exact this
          · exact this.symm
        symm
        unfold cutLen
        refine sm_add_one k e.l es.length hk (fun j hj hjk => ?_) ?_
        · obtain ⟨e', he'⟩ : ∃ e', es[j]? = some e' := ⟨es[j], List.getElem?_eq_getElem hj⟩
          have : s j x = s j i := by
            have := (hs j e' he').2 k e hke (fun e => hjk e.symm)
            rcases hxy with ⟨rfl, rfl⟩ | ⟨rfl, rfl⟩
            · exact this
            · exact this.symm
          rw [this]
        · rw [if_pos hrx, if_neg (by rw [hrx]; exact hxy')]; simp [len1, hke]
      · rename_i hiy
        rw [if_neg hiy] at h
        exact h7 i hi h

theorem cutLen_self (es : List Ed) (s : Nat → Nat → Bool) (x : Nat) : cutLen es s x x = 0 := by
  unfold cutLen
  simp only [if_true]
  exact sm_zero _
theorem cutLen_symm (es : List Ed) (s : Nat → Nat → Bool) (x y : Nat) : cutLen es s x y = cutLen es s y x := by
  unfold cutLen
  refine sm_congr _ fun k _ => ?_
  by_cases h : s k x = s k y
  · rw [if_pos h, if_pos h.symm]
  · rw [if_neg h, if_neg (fun e => h e.symm)]

/-! ### A tree: n - 1 edges, all labelled from 0 -/
structure Tree (n : Nat) (es : List Ed) : Prop where
  good : Good n es
  pos : 0 < n
  len : es.length + 1 = n
  all : ∀ i, i < n → 0 ≤ (frm n es 0).getD i 0

theorem Tree.conn {n : Nat} {es : List Ed} (t : Tree n es) (g : Nat → Bool) (hg : ∀ e ∈ es, g e.u = g e.v) {i j : Nat} (hi : i < n) (hj : j < n) : g i = g j :=
  (frm_conn n es t.good 0 t.pos g hg i hi (t.all i hi)).trans (frm_conn n es t.good 0 t.pos g hg j hj (t.all j hj)).symm

theorem Tree.reach {n : Nat} {es : List Ed} (t : Tree n es) {r : Nat} (hr : r < n) {i : Nat} (hi : i < n) : 0 ≤ (frm n es r).getD i 0 := by
  have h := t.conn (fun x => decide (0 ≤ (frm n es r).getD x 0)) (fun e he => by
    have := (frm_closed n es t.good r).1 e he
    simp only [decide_eq_decide]; exact this) hi hr
  have h0 := (frm_base n es t.good r hr).1
  simp only [decide_eq_decide] at h
  rw [h, h0]; omega

/-- The list without the k-th. -/
def drop1 (es : List Ed) (k : Nat) : List Ed := es.take k ++ es.drop (k + 1)
theorem drop1_len (es : List Ed) (k : Nat) (hk : k < es.length) : (drop1 es k).length + 1 = es.length := by
  simp [drop1]; omega
theorem drop1_mem {es : List Ed} {k : Nat} {e : Ed} (h : e ∈ drop1 es k) : ∃ j, j ≠ k ∧ es[j]? = some e := by
  unfold drop1 at h
  rcases List.mem_append.1 h with h | h
  · obtain ⟨j, hj, he⟩ := List.getElem_of_mem h
    rw [List.length_take] at hj
    refine ⟨j, by omega, ?_⟩
    rw [List.getElem?_eq_getElem (by omega), ← he, List.getElem_take]
  · obtain ⟨j, hj, he⟩ := List.getElem_of_mem h
    rw [List.length_drop] at hj
    refine ⟨k + 1 + j, by omega, ?_⟩
    rw [List.getElem?_eq_getElem (by omega), ← he, List.getElem_drop]
theorem mem_drop1 {es : List Ed} {k j : Nat} {e : Ed} (h : es[j]? = some e) (hjk : j ≠ k) : e ∈ drop1 es k := by
  unfold drop1
  obtain ⟨hj, he⟩ := List.getElem?_eq_some_iff.1 h
  rcases Nat.lt_or_gt_of_ne hjk with h1 | h1
  · refine List.mem_append_left _ ?_
    rw [← he, List.mem_take_iff_getElem]
    exact ⟨j, by omega, rfl⟩
  · refine List.mem_append_right _ ?_
    rw [← he, List.mem_drop_iff_getElem]
    exact ⟨j - (k + 1), by omega, by congr 1; omega⟩
theorem Good.drop1 {n : Nat} {es : List Ed} (h : Good n es) (k : Nat) : Good n (drop1 es k) := fun e he => by
  obtain ⟨j, _, hj⟩ := drop1_mem he
  exact h e (List.mem_of_getElem? hj)

/-- which side of the edge k: reached from its first end without it -/
def side (n : Nat) (es : List Ed) (k : Nat) (x : Nat) : Bool :=
  match es[k]? with
  | some e => decide (0 ≤ (frm n (drop1 es k) e.u).getD x 0)
  | none => false

/-- Without an edge its two ends are not joined. -/
theorem Tree.parts {n : Nat} {es : List Ed} (t : Tree n es) {k : Nat} {e : Ed} (hk : es[k]? = some e) {r : Nat} (hr : r = e.u ∨ r = e.v) :
    0 ≤ (frm n (drop1 es k) r).getD r 0 ∧ ∀ o, ((r = e.u ∧ o = e.v) ∨ (r = e.v ∧ o = e.u)) → (frm n (drop1 es k) r).getD o 0 < 0 := by
  have hkl : k < es.length := (List.getElem?_eq_some_iff.1 hk).1
  have hge := t.good e (List.mem_of_getElem? hk)
  have hrn : r < n := by rcases hr with rfl | rfl <;> omega
  have hgd := t.good.drop1 k
  have hb := frm_base n (drop1 es k) hgd r hrn
  refine ⟨by rw [hb.1]; omega, fun o ho => ?_⟩
  rcases Int.lt_or_le ((frm n (drop1 es k) r).getD o 0) 0 with h | h
  · exact h
  exfalso
  have hcl := (frm_closed n (drop1 es k) hgd r).1
  have hall : ∀ i, i < n → 0 ≤ (frm n (drop1 es k) r).getD i 0 := fun i hi => by
    have h1 := t.conn (fun x => decide (0 ≤ (frm n (drop1 es k) r).getD x 0)) (fun e' he' => by
      simp only [decide_eq_decide]
      obtain ⟨j, hj, hje⟩ := mem_at he'
      by_cases hjk : j = k
      · subst hjk
        rw [hk] at hje
        injection hje with hje
        subst hje
        rcases ho with ⟨rfl, rfl⟩ | ⟨rfl, rfl⟩
        · exact ⟨fun _ => h, fun _ => by rw [hb.1]; omega⟩
        · exact ⟨fun _ => by rw [hb.1]; omega, fun _ => h⟩
      · exact hcl e' (mem_drop1 hje hjk)) hi hrn
    simp only [decide_eq_decide] at h1
    rw [h1, hb.1]; omega
  obtain ⟨used, h1, h2, h3, _, _, h6⟩ := frm_used n (drop1 es k) hgd r hrn (neg_init n r hrn)
  have hle := nodup_le _ used h2 h3
  have hneg : neg (frm n (drop1 es k) r) = 0 := by
    unfold neg
    rw [List.countP_eq_zero]
    intro v hv
    obtain ⟨i, hi, rfl⟩ := List.getElem_of_mem hv
    have := hall i (by omega)
    rw [List.getD_eq_getElem?_getD, List.getElem?_eq_getElem hi] at this
    simp at this ⊢
    omega
  have := drop1_len es k hkl
  have := t.len
  omega

theorem Tree.sides {n : Nat} {es : List Ed} (t : Tree n es) : Sides es (side n es) := by
  intro k e hk
  have hp := t.parts hk (r := e.u) (.inl rfl)
  have hgd := t.good.drop1 k
  refine ⟨?_, fun j e' hj hjk => ?_⟩
  · unfold side
    simp only [hk]
    have h1 := hp.1
    have h2 := hp.2 e.v (.inl ⟨rfl, rfl⟩)
    rw [decide_eq_true h1, decide_eq_false (by omega)]
    simp
  · unfold side
    simp only [hk]
    have := (frm_closed n (drop1 es k) hgd e.u).1 e' (mem_drop1 hj hjk)
    simp only [decide_eq_decide]; exact this

/-- how far, in a tree -/
def dist (n : Nat) (es : List Ed) (x y : Nat) : Int := cutLen es (side n es) x y

theorem Tree.frm_dist {n : Nat} {es : List Ed} (t : Tree n es) {r i : Nat} (hr : r < n) (hi : i < n) : (frm n es r).getD i 0 = dist n es r i :=
  frm_cut n es t.good r hr _ t.sides i hi (t.reach hr hi)

theorem len1_nonneg {n : Nat} {es : List Ed} (hg : Good n es) (k : Nat) : 0 ≤ len1 es k := by
  unfold len1
  cases h : es[k]? with
  | none => simp
  | some e => simpa using (hg e (List.mem_of_getElem? h)).2.2

theorem cutLen_tri {n : Nat} {es : List Ed} (hg : Good n es) (s : Nat → Nat → Bool) (x y z : Nat) : cutLen es s x y ≤ cutLen es s x z + cutLen es s z y := by
  unfold cutLen
  rw [← sm_add]
  refine sm_le _ fun k _ => ?_
  have := len1_nonneg hg k
  by_cases h1 : s k x = s k y <;> by_cases h2 : s k x = s k z <;> by_cases h3 : s k z = s k y <;> simp only [h1, h2, h3, if_true, if_false] <;> (try omega)
  all_goals (exfalso; revert h1 h2 h3; cases s k x <;> cases s k y <;> cases s k z <;> simp)

/-- Between: no cut parts it from both. -/
def Btw (es : List Ed) (s : Nat → Nat → Bool) (a c b : Nat) : Prop := ∀ k, k < es.length → s k c = s k a ∨ s k c = s k b

theorem Btw.add {es : List Ed} {s : Nat → Nat → Bool} {a c b : Nat} (h : Btw es s a c b) : cutLen es s a b = cutLen es s a c + cutLen es s c b := by
  unfold cutLen
  rw [← sm_add]
  refine sm_congr _ fun k hk => ?_
  have := h k hk
  revert this
  cases s k a <;> cases s k b <;> cases s k c <;> simp

theorem Tree.quad {n : Nat} {es : List Ed} (t : Tree n es) {k j : Nat} {e f : Ed} (hk : es[k]? = some e) (hj : es[j]? = some f) (hkj : k ≠ j) {x : Nat} (hx : x < n) :
    side n es k x = side n es k f.u ∨ side n es j x = side n es j e.u := by
  have hs := t.sides
  have h := t.conn (fun x => decide (side n es k x ≠ side n es k f.u ∧ side n es j x ≠ side n es j e.u)) (fun e' he' => by
    obtain ⟨i, hi, hie⟩ := mem_at he'
    simp only [decide_eq_decide]
    by_cases hik : i = k
    · subst hik
      rw [hk] at hie
      injection hie with hie
      subst hie
      have h2 := (hs j f hj).2 i e hk hkj
      constructor
      · rintro ⟨_, h3⟩; exact absurd rfl h3
      · rintro ⟨_, h3⟩; exact absurd h2.symm h3
    · by_cases hij : i = j
      · subst hij
        rw [hj] at hie
        injection hie with hie
        subst hie
        have h2 := (hs k e hk).2 i f hj (fun e => hkj e.symm)
        constructor
        · rintro ⟨h3, _⟩; exact absurd rfl h3
        · rintro ⟨h3, _⟩; exact absurd h2.symm h3
      · rw [(hs k e hk).2 i e' hie hik, (hs j f hj).2 i e' hie hij]) hx (t.good f (List.mem_of_getElem? hj)).1
  simp only [ne_eq, decide_eq_decide, not_true_eq_false, false_and, iff_false] at h
  by_cases h1 : side n es k x = side n es k f.u
  · exact .inl h1
  · right
    by_cases h2 : side n es j x = side n es j e.u
    · exact h2
    · exact absurd ⟨h1, h2⟩ h

theorem Tree.median {n : Nat} {es : List Ed} (t : Tree n es) {a b c p : Nat} (ha : a < n) (hb : b < n) (hc : c < n) (hp : p < n) (h : Btw es (side n es) a c b) :
    Btw es (side n es) a c p ∨ Btw es (side n es) b c p := by
  by_cases h1 : Btw es (side n es) a c p
  · exact .inl h1
  right
  intro j hj
  by_cases h2 : side n es j c = side n es j b ∨ side n es j c = side n es j p
  · exact h2
  exfalso
  apply h1
  intro k hk
  by_cases h3 : side n es k c = side n es k a ∨ side n es k c = side n es k p
  · exact h3
  exfalso
  have hkb := h k hk
  have hja := h j hj
  have hne : k ≠ j := by
    rintro rfl
    revert h2 h3 hkb
    cases side n es k a <;> cases side n es k b <;> cases side n es k c <;> cases side n es k p <;> simp
  obtain ⟨e, he⟩ : ∃ e, es[k]? = some e := ⟨es[k], List.getElem?_eq_getElem hk⟩
  obtain ⟨f, hf⟩ : ∃ e, es[j]? = some e := ⟨es[j], List.getElem?_eq_getElem hj⟩
  have qa := t.quad he hf hne ha
  have qb := t.quad he hf hne hb
  have qc := t.quad he hf hne hc
  have qp := t.quad he hf hne hp
  revert h2 h3 hkb hja qa qb qc qp
  cases side n es k a <;> cases side n es k b <;> cases side n es k c <;> cases side n es k p <;> cases side n es j a <;> cases side n es j b <;> cases side n es j c <;> cases side n es j p <;> cases side n es k f.u <;> cases side n es j e.u <;> simp

/-- the first edge of the way from c to b -/
theorem Tree.first {n : Nat} {es : List Ed} (t : Tree n es) {b c : Nat} (hb : b < n) (hc : c < n) (hne : c ≠ b) :
    ∃ k e c', es[k]? = some e ∧ ((c = e.u ∧ c' = e.v) ∨ (c = e.v ∧ c' = e.u)) ∧ side n es k c ≠ side n es k b := by
  have hs := t.sides
  by_cases h : ∃ k e c', es[k]? = some e ∧ ((c = e.u ∧ c' = e.v) ∨ (c = e.v ∧ c' = e.u)) ∧ side n es k c ≠ side n es k b
  · exact h
  exfalso
  have hno : ∀ k e, es[k]? = some e → (c = e.u ∨ c = e.v) → side n es k c = side n es k b := fun k e hk hce => by
    by_cases hq : side n es k c = side n es k b
    · exact hq
    · refine absurd ?_ h
      rcases hce with hce | hce
      · exact ⟨k, e, e.v, hk, .inl ⟨hce, rfl⟩, hq⟩
      · exact ⟨k, e, e.u, hk, .inr ⟨hce, rfl⟩, hq⟩
  have key := fun (g : Nat → Bool) hg => t.conn g hg hc hb
  have dec := fun (x : Nat) => Classical.propDecidable (x = c ∨ ∃ k e, es[k]? = some e ∧ (c = e.u ∨ c = e.v) ∧ side n es k x ≠ side n es k c)
  have h1 := key (fun x => @decide _ (dec x)) (fun e he => by
    obtain ⟨j, hj, hje⟩ := mem_at he
    by_cases hinc : c = e.u ∨ c = e.v
    · have hu : e.u = c ∨ ∃ k e', es[k]? = some e' ∧ (c = e'.u ∨ c = e'.v) ∧ side n es k e.u ≠ side n es k c := by
        rcases hinc with hi | hi
        · exact .inl hi.symm
        · exact .inr ⟨j, e, hje, .inr hi, by have := (hs j e hje).1; rw [hi]; exact this⟩
      have hv : e.v = c ∨ ∃ k e', es[k]? = some e' ∧ (c = e'.u ∨ c = e'.v) ∧ side n es k e.v ≠ side n es k c := by
        rcases hinc with hi | hi
        · exact .inr ⟨j, e, hje, .inl hi, by have := (hs j e hje).1; rw [hi]; exact this.symm⟩
        · exact .inl hi.symm
      rw [@decide_eq_true _ (dec e.u) hu, @decide_eq_true _ (dec e.v) hv]
    · have hiff : (e.u = c ∨ ∃ k e', es[k]? = some e' ∧ (c = e'.u ∨ c = e'.v) ∧ side n es k e.u ≠ side n es k c) ↔ (e.v = c ∨ ∃ k e', es[k]? = some e' ∧ (c = e'.u ∨ c = e'.v) ∧ side n es k e.v ≠ side n es k c) := by
        have hk : ∀ k e', es[k]? = some e' → (c = e'.u ∨ c = e'.v) → side n es k e.u = side n es k e.v := fun k e' hk hce => by
          have hjk : j ≠ k := by
            rintro rfl
            rw [hje] at hk
            injection hk with hk
            subst hk
            exact hinc hce
          exact (hs k e' hk).2 j e hje hjk
        constructor
        · rintro (hx | ⟨k, e', h1, h2, h3⟩)
          · exact absurd (.inl hx.symm) hinc
          · exact .inr ⟨k, e', h1, h2, by rw [← hk k e' h1 h2]; exact h3⟩
        · rintro (hx | ⟨k, e', h1, h2, h3⟩)
          · exact absurd (.inr hx.symm) hinc
          · exact .inr ⟨k, e', h1, h2, by rw [hk k e' h1 h2]; exact h3⟩
      by_cases hq : (e.u = c ∨ ∃ k e', es[k]? = some e' ∧ (c = e'.u ∨ c = e'.v) ∧ side n es k e.u ≠ side n es k c)
      · rw [@decide_eq_true _ (dec e.u) hq, @decide_eq_true _ (dec e.v) (hiff.1 hq)]
      · rw [@decide_eq_false _ (dec e.u) hq, @decide_eq_false _ (dec e.v) (fun hx => hq (hiff.2 hx))])
  have hcc : (c = c ∨ ∃ k e, es[k]? = some e ∧ (c = e.u ∨ c = e.v) ∧ side n es k c ≠ side n es k c) := .inl rfl
  have hbb : ¬ (b = c ∨ ∃ k e, es[k]? = some e ∧ (c = e.u ∨ c = e.v) ∧ side n es k b ≠ side n es k c) := by
    rintro (hx | ⟨k, e, h1, h2, h3⟩)
    · exact hne hx.symm
    · exact h3 (hno k e h1 h2).symm
  rw [@decide_eq_true _ (dec c) hcc, @decide_eq_false _ (dec b) hbb] at h1
  exact absurd h1 (by simp)

/-- across an edge -/
theorem Tree.across {n : Nat} {es : List Ed} (t : Tree n es) {k : Nat} {e : Ed} {c c' : Nat} (hk : es[k]? = some e) (h : (c = e.u ∧ c' = e.v) ∨ (c = e.v ∧ c' = e.u)) :
    c < n ∧ c' < n ∧ side n es k c ≠ side n es k c' ∧ ∀ j, j < es.length → j ≠ k → side n es j c = side n es j c' := by
  have hs := t.sides
  have hg := t.good e (List.mem_of_getElem? hk)
  refine ⟨by rcases h with ⟨rfl, _⟩ | ⟨rfl, _⟩ <;> omega, by rcases h with ⟨_, rfl⟩ | ⟨_, rfl⟩ <;> omega, ?_, fun j hj hjk => ?_⟩
  · rcases h with ⟨rfl, rfl⟩ | ⟨rfl, rfl⟩
    · exact (hs k e hk).1
    · exact (hs k e hk).1.symm
  · have := (hs j es[j] (List.getElem?_eq_getElem hj)).2 k e hk (fun e => hjk e.symm)
    rcases h with ⟨rfl, rfl⟩ | ⟨rfl, rfl⟩
    · exact this
    · exact this.symm

theorem exists_max (n : Nat) (P : Nat → Prop) (f : Nat → Nat) (h : ∃ x, x < n ∧ P x) : ∃ x, x < n ∧ P x ∧ ∀ y, y < n → P y → f y ≤ f x := by
  induction n with
  | zero => obtain ⟨x, hx, _⟩ := h; omega
  | succ n ih =>
    by_cases h0 : ∃ x, x < n ∧ P x
    · obtain ⟨x, hx, hp, hm⟩ := ih h0
      by_cases hn : P n ∧ f x < f n
      · refine ⟨n, by omega, hn.1, fun y hy hpy => ?_⟩
        rcases Nat.lt_or_ge y n with h1 | h1
        · have := hm y h1 hpy; omega
        · obtain rfl : y = n := by omega
          exact Nat.le_refl _
      · refine ⟨x, by omega, hp, fun y hy hpy => ?_⟩
        rcases Nat.lt_or_ge y n with h1 | h1
        · exact hm y h1 hpy
        · obtain rfl : y = n := by omega
          rcases Nat.lt_or_ge (f x) (f y) with h2 | h2
          · exact absurd ⟨hpy, h2⟩ hn
          · exact h2
    · obtain ⟨x, hx, hp⟩ := h
      have hxn : x = n := by
        rcases Nat.lt_or_ge x n with h1 | h1
        · exact absurd ⟨x, h1, hp⟩ h0
        · omega
      subst hxn
      refine ⟨x, by omega, hp, fun y hy hpy => ?_⟩
      rcases Nat.lt_or_ge y x with h1 | h1
      · exact absurd ⟨y, h1, hpy⟩ h0
      · obtain rfl : y = x := by omega
        exact Nat.le_refl _

def hops (n : Nat) (es : List Ed) (x y : Nat) : Nat := (sm es.length fun k => if side n es k x = side n es k y then 0 else 1).toNat

theorem Tree.centers {n : Nat} {es : List Ed} (t : Tree n es) {k a b : Nat} {r d long : Int} (ha : a < n) (hb : b < n)
    (hr : ∀ i, i < n → dist n es k i ≤ r) (hmin : ∀ c, c < n → ∃ i, i < n ∧ r ≤ dist n es c i)
    (hab : dist n es a b = d) (hd : ∀ i j, i < n → j < n → dist n es i j ≤ d) (hlong : ∀ e ∈ es, e.l ≤ long) (hlong0 : 0 ≤ long) :
    d ≤ 2 * r ∧ 2 * r ≤ d + long := by
  have hdnn : 0 ≤ d := by
    have h0 := hd a a ha ha
    unfold dist at h0
    rw [cutLen_self] at h0
    exact h0
  constructor
  · have h1 := cutLen_tri t.good (side n es) a b k
    have h2 := hr a ha
    have h3 := hr b hb
    rw [show cutLen es (side n es) a k = dist n es k a from cutLen_symm ..] at h1
    unfold dist at hab h2 h3 h1
    omega
  -- a middle of the way from a to b
  have hmid : ∃ c, c < n ∧ Btw es (side n es) a c b ∧ 2 * dist n es a c ≤ d + long ∧ 2 * dist n es c b ≤ d + long := by
    obtain ⟨c, hc, ⟨hcb, hc2⟩, hmax⟩ := exists_max n (fun c => Btw es (side n es) a c b ∧ 2 * dist n es a c ≤ d) (fun c => hops n es a c)
      ⟨a, ha, fun k _ => .inl rfl, by unfold dist; rw [cutLen_self]; omega⟩
    have hadd := hcb.add
    unfold dist at hab
    by_cases hcbne : c = b
    · subst hcbne
      refine ⟨c, hc, hcb, by omega, ?_⟩
      unfold dist; rw [cutLen_self]; omega
    obtain ⟨j, e, c', hj, hcc, hsep⟩ := t.first hb hc hcbne
    obtain ⟨_, hc', hs1, hs2⟩ := t.across hj hcc
    have hjl : j < es.length := (List.getElem?_eq_some_iff.1 hj).1
    have hja : side n es j c = side n es j a := (hcb j hjl).resolve_right hsep
    have hjb : side n es j c' = side n es j b := by
      revert hs1 hsep; cases side n es j c <;> cases side n es j c' <;> cases side n es j b <;> simp
    have hcb' : Btw es (side n es) a c' b := fun i hi => by
      by_cases hij : i = j
      · subst hij; exact .inr hjb
      · rw [← hs2 i hi hij]; exact hcb i hi
    have hL : len1 es j = e.l := by simp [len1, hj]
    have hac' : cutLen es (side n es) a c' = cutLen es (side n es) a c + e.l := by
      unfold cutLen
      refine sm_add_one j e.l _ hjl (fun i hi hij => by rw [hs2 i hi hij]) ?_
      rw [if_pos hja.symm, if_neg (by rw [← hja]; exact hs1), hL]; omega
    have hop : hops n es a c < hops n es a c' := by
      unfold hops
      have hnn : 0 ≤ sm es.length (fun k => if side n es k a = side n es k c then 0 else 1) := sm_nonneg _ fun i _ => by split <;> omega
      have := sm_add_one (f := fun k => if side n es k a = side n es k c' then 0 else 1) (g := fun k => if side n es k a = side n es k c then 0 else 1) j 1 es.length hjl
        (fun i hi hij => by rw [hs2 i hi hij]) (by rw [if_pos hja.symm, if_neg (by rw [← hja]; exact hs1)]; omega)
      rw [this]
      omega
    have hnot : ¬ (2 * dist n es a c' ≤ d) := fun hle => by
      have := hmax c' hc' ⟨hcb', hle⟩
      omega
    have hadd' := hcb'.add
    have hll := hlong e (List.mem_of_getElem? hj)
    have hl0 := (t.good e (List.mem_of_getElem? hj)).2.2
    unfold dist at hc2 hnot
    by_cases hcase : 2 * cutLen es (side n es) c b ≤ d + long
    · exact ⟨c, hc, hcb, by unfold dist; omega, hcase⟩
    · refine ⟨c', hc', hcb', ?_, ?_⟩ <;> unfold dist <;> omega
  obtain ⟨c, hc, hcb, hca2, hcb2⟩ := hmid
  obtain ⟨p, hp, hrp⟩ := hmin c hc
  have hadd := hcb.add
  unfold dist at hab hrp hca2 hcb2
  rcases t.median ha hb hc hp hcb with h1 | h1
  · have h2 := h1.add
    have h3 := hd a p ha hp
    unfold dist at h3
    omega
  · have h2 := h1.add
    have h3 := hd b p hb hp
    unfold dist at h3
    rw [cutLen_symm es (side n es) b c] at h2
    omega

/-! ### Goldman -/
def total (n : Nat) (w : Nat → Int) : Int := sm n w
/-- how far all people together are -/
def Far (n : Nat) (es : List Ed) (w : Nat → Int) (v : Nat) : Int := sm n fun i => dist n es v i * w i
/-- how many are on the other side of the edge k -/
def beyond (n : Nat) (es : List Ed) (w : Nat → Int) (v k : Nat) : Int := sm n fun i => if side n es k i = side n es k v then 0 else w i

theorem Far_sub {n : Nat} {es : List Ed} (w : Nat → Int) (u v : Nat) :
    Far n es w u - Far n es w v = sm es.length fun k => if side n es k u = side n es k v then 0 else len1 es k * (total n w - 2 * beyond n es w v k) := by
  unfold Far
  rw [← sm_sub]
  have h1 : ∀ i, dist n es u i * w i - dist n es v i * w i =
      sm es.length (fun k => w i * ((if side n es k u = side n es k i then 0 else len1 es k) - (if side n es k v = side n es k i then 0 else len1 es k))) := fun i => by
    rw [sm_mul, sm_sub]
    show cutLen es (side n es) u i * w i - cutLen es (side n es) v i * w i = w i * (cutLen es (side n es) u i - cutLen es (side n es) v i)
    rw [Int.mul_sub, Int.mul_comm, Int.mul_comm (w i) (cutLen es (side n es) v i), Int.mul_comm (w i)]
  rw [sm_congr n (fun i _ => h1 i), sm_comm]
  refine sm_congr _ fun k _ => ?_
  by_cases h : side n es k u = side n es k v
  · rw [if_pos h, ← sm_zero n]
    refine sm_congr n fun i _ => ?_
    rw [h]; simp
  · rw [if_neg h]
    have h2 : ∀ i, w i * ((if side n es k u = side n es k i then 0 else len1 es k) - (if side n es k v = side n es k i then 0 else len1 es k)) =
        len1 es k * (w i - 2 * (if side n es k i = side n es k v then 0 else w i)) := fun i => by
      have h3 : w i * len1 es k = len1 es k * w i := Int.mul_comm ..
      have h4 : w i * -len1 es k = -(len1 es k * w i) := by rw [Int.mul_neg, h3]
      have h5 : len1 es k * (w i - 2 * w i) = -(len1 es k * w i) := by rw [show w i - 2 * w i = -w i by omega, Int.mul_neg]
      revert h
      cases side n es k u <;> cases side n es k v <;> cases side n es k i <;> simp [h3, h4, h5]
    rw [sm_congr n (fun i _ => h2 i), sm_mul, sm_sub, sm_mul]
    rfl

theorem Tree.goldman {n : Nat} {es : List Ed} (t : Tree n es) (w : Nat → Int) (hw : ∀ i, i < n → 0 ≤ w i) {v : Nat} (hv : v < n)
    (hpos : ∀ e ∈ es, 0 < e.l) :
    (∀ k e, es[k]? = some e → (e.u = v ∨ e.v = v) → 2 * beyond n es w v k ≤ total n w) ↔ ∀ u, u < n → Far n es w v ≤ Far n es w u := by
  constructor
  · intro hb u hu
    have hsub := Far_sub (es := es) w (n := n) u v
    have hnn : 0 ≤ sm es.length (fun k => if side n es k u = side n es k v then 0 else len1 es k * (total n w - 2 * beyond n es w v k)) := by
      refine sm_nonneg _ fun k hk => ?_
      split
      · omega
      rename_i hne
      refine Int.mul_nonneg (len1_nonneg t.good k) ?_
      have hvu : v ≠ u := by rintro rfl; exact hne rfl
      obtain ⟨f, e, c', hf, hfc, hsep⟩ := t.first hu hv hvu
      have hbf := hb f e hf (hfc.elim (fun h => .inl h.1.symm) (fun h => .inr h.1.symm))
      have hle : beyond n es w v k ≤ beyond n es w v f := by
        refine sm_le n fun i hi => ?_
        have := hw i hi
        by_cases h1 : side n es k i = side n es k v
        · rw [if_pos h1]; split <;> omega
        · rw [if_neg h1]
          have h2 : ¬ side n es f i = side n es f v := by
            by_cases hkf : k = f
            · subst hkf; exact h1
            · obtain ⟨ek, hek⟩ : ∃ e, es[k]? = some e := ⟨es[k], List.getElem?_eq_getElem hk⟩
              obtain ⟨_, _, hs1, hs2⟩ := t.across hf hfc
              have hkv : side n es k e.u = side n es k v := by
                have := hs2 k hk hkf
                rcases hfc with ⟨rfl, rfl⟩ | ⟨rfl, rfl⟩
                · rfl
                · exact this.symm
              have qi := t.quad hek hf hkf hi
              have qu := t.quad hek hf hkf hu
              rw [hkv] at qi qu
              have q1 := qi.resolve_left h1
              have q2 := qu.resolve_left hne
              rw [q1, ← q2]
              exact fun e => hsep e.symm
          rw [if_neg h2]; omega
      omega
    omega
  · intro hm k e hk hinc
    by_cases h : 2 * beyond n es w v k ≤ total n w
    · exact h
    exfalso
    obtain ⟨c, hc⟩ : ∃ c, (v = e.u ∧ c = e.v) ∨ (v = e.v ∧ c = e.u) := by
      rcases hinc with h | h
      · exact ⟨e.v, .inl ⟨h.symm, rfl⟩⟩
      · exact ⟨e.u, .inr ⟨h.symm, rfl⟩⟩
    obtain ⟨_, hcn, hs1, hs2⟩ := t.across hk hc
    have hkl : k < es.length := (List.getElem?_eq_some_iff.1 hk).1
    have hsub := Far_sub (es := es) w (n := n) c v
    have h1 := sm_add_one (f := fun k => if side n es k c = side n es k v then 0 else len1 es k * (total n w - 2 * beyond n es w v k)) (g := fun _ => 0) k (len1 es k * (total n w - 2 * beyond n es w v k)) es.length hkl
      (fun j hj hjk => by rw [if_pos (hs2 j hj hjk).symm]) (by rw [if_neg (fun e => hs1 e.symm)]; omega)
    rw [h1, sm_zero] at hsub
    have hL : 0 < len1 es k := by
      have := hpos e (List.mem_of_getElem? hk)
      simp [len1, hk]; omega
    have hneg : len1 es k * (total n w - 2 * beyond n es w v k) < 0 := Int.mul_neg_of_pos_of_neg hL (by omega)
    have := hm c hcn
    omega

/-- The places that are reached from the other end without the edge are those on its other side. -/
theorem Tree.branch {n : Nat} {es : List Ed} (t : Tree n es) {k : Nat} {e : Ed} {v o : Nat} (hk : es[k]? = some e) (h : (v = e.u ∧ o = e.v) ∨ (v = e.v ∧ o = e.u)) {i : Nat} (hi : i < n) :
    0 ≤ (frm n (drop1 es k) o).getD i 0 ↔ side n es k i ≠ side n es k v := by
  have hge := t.good e (List.mem_of_getElem? hk)
  have hgd := t.good.drop1 k
  obtain ⟨hvn, hon, hs1, hs2⟩ := t.across hk h
  have hs := t.sides
  have hconst : ∀ e' ∈ drop1 es k, side n es k e'.u = side n es k e'.v := fun e' he' => by
    obtain ⟨j, hj, hje⟩ := drop1_mem he'
    exact (hs k e hk).2 j e' hje hj
  constructor
  · intro hr
    rw [frm_conn n (drop1 es k) hgd o hon (side n es k) hconst i hi hr]
    exact fun e => hs1 e.symm
  · intro hne
    -- the union of both sides is all
    have h0 := (frm_base n (drop1 es k) hgd o hon).1
    have h0v := (frm_base n (drop1 es k) hgd v hvn).1
    have hall := t.conn (fun x => decide (0 ≤ (frm n (drop1 es k) o).getD x 0 ∨ 0 ≤ (frm n (drop1 es k) v).getD x 0)) (fun e' he' => by
      simp only [decide_eq_decide]
      obtain ⟨j, hj, hje⟩ := mem_at he'
      by_cases hjk : j = k
      · subst hjk
        rw [hk] at hje
        injection hje with hje
        subst hje
        rcases h with ⟨rfl, rfl⟩ | ⟨rfl, rfl⟩
        · exact ⟨fun _ => .inl (by rw [h0]; omega), fun _ => .inr (by rw [h0v]; omega)⟩
        · exact ⟨fun _ => .inr (by rw [h0v]; omega), fun _ => .inl (by rw [h0]; omega)⟩
      · have c1 := (frm_closed n (drop1 es k) hgd o).1 e' (mem_drop1 hje hjk)
        have c2 := (frm_closed n (drop1 es k) hgd v).1 e' (mem_drop1 hje hjk)
        rw [c1, c2]) hi hon
    simp only [decide_eq_decide] at hall
    have := hall.2 (.inl (by rw [h0]; omega))
    rcases this with h1 | h1
    · exact h1
    · exfalso
      exact hne (frm_conn n (drop1 es k) hgd v hvn (side n es k) hconst i hi h1)
end Go.Proofs.Ytfkeplcalmlojaa.TreeM
