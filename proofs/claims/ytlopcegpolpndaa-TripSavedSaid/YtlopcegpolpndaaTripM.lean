/- Round ways: lengths, pieces turned over, Held and Karp, the shortest tree. Plain. -/
import Derived.Test.YtlopcegpolpndaaPermM
namespace Go.Proofs.Ytlopcegpolpndaa.TripM
open PermM
/-! ### lengths of ways -/
variable (D : Nat → Nat → Int)
def pathLen : List Nat → Int
  | [] => 0
  | [_] => 0
  | a :: b :: r => D a b + pathLen (b :: r)
/-- a round way's: from place to place, and back from the last to the first -/
def longOf (way : List Nat) : Int := match way with
  | [] => 0
  | [_] => 0
  | a :: b :: r => pathLen D (a :: b :: r) + D ((b :: r).getLastD 0) a

theorem lastD_snoc (l : List Nat) (b d : Nat) : (l ++ [b]).getLastD d = b := by simp [List.getLastD_eq_getLast?]
theorem pathLen_snoc (l : List Nat) (a : Nat) (h : l ≠ []) : pathLen D (l ++ [a]) = pathLen D l + D (l.getLastD 0) a := by
  induction l with
  | nil => exact absurd rfl h
  | cons x l ih =>
    cases l with
    | nil => simp [pathLen]
    | cons y l =>
      have := ih (by simp)
      simp only [List.cons_append] at this ⊢
      rw [pathLen, this, pathLen]
      simp only [List.getLastD_cons]
      omega
theorem pathLen_append (l r : List Nat) (a : Nat) : pathLen D (l ++ a :: r) = pathLen D (l ++ [a]) + pathLen D (a :: r) := by
  induction l with
  | nil => simp [pathLen]
  | cons x l ih =>
    cases l with
    | nil => simp [pathLen]
    | cons y l =>
      simp only [List.cons_append] at ih ⊢
      rw [pathLen, ih, pathLen]; omega

/-- the round way as a closed path -/
theorem longOf_closed (a b : Nat) (r : List Nat) : longOf D (a :: b :: r) = pathLen D (a :: b :: r ++ [a]) := by
  rw [pathLen_snoc D _ _ (by simp)]
  simp [longOf]
theorem longOf_rot (a : Nat) (r : List Nat) : longOf D (a :: r) = longOf D (r ++ [a]) := by
  cases r with
  | nil => rfl
  | cons b r =>
    rw [longOf_closed]
    cases r with
    | nil =>
      simp [pathLen, longOf]; omega
    | cons c r =>
      have h1 : longOf D ((b :: c :: r) ++ [a]) = pathLen D ((b :: c :: r ++ [a]) ++ [b]) := longOf_closed D b c (r ++ [a])
      rw [h1, pathLen_snoc D (b :: c :: r ++ [a]) b (by simp), lastD_snoc]
      simp only [List.cons_append]
      rw [pathLen]; omega
theorem longOf_append (l r : List Nat) : longOf D (l ++ r) = longOf D (r ++ l) := by
  induction l generalizing r with
  | nil => simp
  | cons a l ih =>
    rw [List.cons_append, longOf_rot, List.append_assoc, ih]
    simp
/-- each round way begins at 0, somewhere -/
theorem isPerm_rot {n : Nat} {l : List Nat} (h : IsPerm n l) (hn : 0 < n) : ∃ p, longOf D (0 :: p) = longOf D l ∧ IsPerm n (0 :: p) := by
  obtain ⟨s, t, rfl⟩ := List.append_of_mem (h.all 0 hn)
  refine ⟨t ++ s, ?_, ?_⟩
  · rw [longOf_append, List.cons_append]
  · have hp : List.Perm (0 :: (t ++ s)) (s ++ 0 :: t) := by
      rw [← List.cons_append]; exact List.perm_append_comm
    exact ⟨by rw [hp.length_eq]; exact h.len, hp.nodup_iff.2 h.nodup, fun x hx => h.lt x (hp.mem_iff.1 hx)⟩

/-! ### turning a piece over -/
/-- of a map that is the same both ways -/
theorem pathLen_rev (hs : ∀ a b, D a b = D b a) (l : List Nat) : pathLen D l.reverse = pathLen D l := by
  induction l with
  | nil => rfl
  | cons a l ih =>
    cases l with
    | nil => rfl
    | cons b l =>
      rw [List.reverse_cons, pathLen_snoc D _ _ (by simp), ih, pathLen, hs a b]
      have : (b :: l).reverse.getLastD 0 = b := by simp [List.reverse_cons]
      rw [this]; omega
/-- a way: x.. a | b .. c | d ..: turned over between a and d -/
theorem turn_long (hs : ∀ a b, D a b = D b a) (x : List Nat) (a b : Nat) (mid : List Nat) (y : List Nat) (d : Nat)
    (hd : d = ((y ++ x ++ [a]).headD 0)) :
    longOf D (x ++ a :: (b :: mid).reverse ++ y) = longOf D (x ++ a :: (b :: mid) ++ y) - D a b - D ((b :: mid).getLastD 0) d + D a ((b :: mid).getLastD 0) + D b d := by
  -- rotate so that the piece stands first behind a
  have r1 : longOf D (x ++ a :: (b :: mid) ++ y) = longOf D (a :: (b :: mid) ++ (y ++ x)) := by
    rw [List.append_assoc, longOf_append]; simp
  have r2 : longOf D (x ++ a :: (b :: mid).reverse ++ y) = longOf D (a :: (b :: mid).reverse ++ (y ++ x)) := by
    rw [List.append_assoc, longOf_append]; simp
  rw [r1, r2]
  generalize hz : y ++ x = z at hd ⊢
  -- closed paths
  have c1 : longOf D (a :: (b :: mid) ++ z) = pathLen D (a :: (b :: mid) ++ (z ++ [a])) := by
    have := longOf_closed D a b (mid ++ z)
    simp only [List.cons_append] at this ⊢
    rw [this]; simp
  have hne : (b :: mid).reverse ≠ [] := by simp
  obtain ⟨c, m', hm'⟩ : ∃ c m', (b :: mid).reverse = c :: m' := by
    cases h : (b :: mid).reverse with
    | nil => exact absurd h hne
    | cons c m' => exact ⟨c, m', rfl⟩
  have hlast : (b :: mid).getLastD 0 = c := by
    have : (b :: mid) = (c :: m').reverse := by rw [← hm', List.reverse_reverse]
    rw [this]; simp
  have c2 : longOf D (a :: (b :: mid).reverse ++ z) = pathLen D (a :: (b :: mid).reverse ++ (z ++ [a])) := by
    rw [hm']
    have := longOf_closed D a c (m' ++ z)
    simp only [List.cons_append] at this ⊢
    rw [this]; simp
  rw [c1, c2]
  obtain ⟨d', z', hz'⟩ : ∃ d' z', z ++ [a] = d' :: z' := by
    cases z with
    | nil => exact ⟨a, [], rfl⟩
    | cons d' z => exact ⟨d', z ++ [a], rfl⟩
  have hdd : d = d' := by rw [hd, hz']; rfl
  rw [hz', hdd]
  -- both
  have e1 : pathLen D (a :: (b :: mid) ++ d' :: z') = D a b + pathLen D (b :: mid) + D ((b :: mid).getLastD 0) d' + pathLen D (d' :: z') := by
    rw [pathLen_append, pathLen_snoc D _ _ (by simp)]
    rw [pathLen]
    simp only [List.getLastD_cons]
  have e2 : pathLen D (a :: (b :: mid).reverse ++ d' :: z') = D a c + pathLen D (b :: mid).reverse + D b d' + pathLen D (d' :: z') := by
    rw [pathLen_append, pathLen_snoc D _ _ (by simp)]
    have : (a :: (b :: mid).reverse).getLastD 0 = b := by rw [List.reverse_cons, ← List.cons_append, lastD_snoc]
    rw [this, hm', pathLen]
  rw [e1, e2, pathLen_rev D hs, hlast]
  omega

/-! ### Held and Karp -/
/-- the places of a set, each once -/
def En (n S : Nat) (p : List Nat) : Prop := p.Nodup ∧ ∀ k, k ∈ p ↔ (1 ≤ k ∧ k < n ∧ S.testBit k = true)
/-- from i over all of p to 0 -/
def cost (i : Nat) (p : List Nat) : Int := pathLen D (i :: p ++ [0])
theorem cost_cons (i k : Nat) (p : List Nat) : cost D i (k :: p) = D i k + cost D k p := by simp [cost, pathLen]
theorem cost_nil (i : Nat) : cost D i [] = D i 0 := by simp [cost, pathLen]
structure IsLeast (n S i : Nat) (v : Int) : Prop where
  some : ∃ p, En n S p ∧ cost D i p = v
  least : ∀ p, En n S p → v ≤ cost D i p
theorem least_none {n S : Nat} (i : Nat) (h : ∀ k, 1 ≤ k → k < n → S.testBit k = false) : IsLeast D n S i (D i 0) := by
  refine ⟨⟨[], ⟨List.nodup_nil, fun k => ⟨fun hk => absurd hk (by simp), fun ⟨h1, h2, h3⟩ => by rw [h k h1 h2] at h3; cases h3⟩⟩, cost_nil D i⟩, fun p hp => ?_⟩
  cases p with
  | nil => rw [cost_nil]; exact Int.le_refl _
  | cons k p =>
    obtain ⟨h1, h2, h3⟩ := (hp.2 k).1 (List.mem_cons_self ..)
    rw [h k h1 h2] at h3; cases h3
/-- S' is S without k -/
def Less (n S S' k : Nat) : Prop := ∀ j, 1 ≤ j → j < n → (S'.testBit j = true ↔ (S.testBit j = true ∧ j ≠ k))
theorem En.cons {n S S' k : Nat} {p : List Nat} (hk : 1 ≤ k ∧ k < n ∧ S.testBit k = true) (hl : Less n S S' k) (hp : En n S' p) : En n S (k :: p) := by
  refine ⟨List.nodup_cons.2 ⟨fun hm => ?_, hp.1⟩, fun j => ?_⟩
  · obtain ⟨h1, h2, h3⟩ := (hp.2 k).1 hm
    exact ((hl k h1 h2).1 h3).2 rfl
  · rw [List.mem_cons, hp.2 j]
    constructor
    · rintro (rfl | ⟨h1, h2, h3⟩)
      · exact hk
      · exact ⟨h1, h2, ((hl j h1 h2).1 h3).1⟩
    · rintro ⟨h1, h2, h3⟩
      by_cases e : j = k
      · exact .inl e
      · exact .inr ⟨h1, h2, (hl j h1 h2).2 ⟨h3, e⟩⟩
theorem En.uncons {n S S' k : Nat} {p : List Nat} (hp : En n S (k :: p)) (hl : Less n S S' k) : (1 ≤ k ∧ k < n ∧ S.testBit k = true) ∧ En n S' p := by
  have hn := List.nodup_cons.1 hp.1
  refine ⟨(hp.2 k).1 (List.mem_cons_self ..), hn.2, fun j => ⟨fun hj => ?_, fun ⟨h1, h2, h3⟩ => ?_⟩⟩
  · obtain ⟨h1, h2, h3⟩ := (hp.2 j).1 (List.mem_cons_of_mem _ hj)
    exact ⟨h1, h2, (hl j h1 h2).2 ⟨h3, fun e => hn.1 (e ▸ hj)⟩⟩
  · obtain ⟨h4, h5⟩ := (hl j h1 h2).1 h3
    rcases List.mem_cons.1 ((hp.2 j).2 ⟨h1, h2, h4⟩) with e | e
    · exact absurd e h5
    · exact e
theorem least_step {n S i : Nat} {v : Int} (R : Nat → Nat) (f : Nat → Int) (hR : ∀ k, 1 ≤ k → k < n → S.testBit k = true → Less n S (R k) k)
    (hf : ∀ k, 1 ≤ k → k < n → S.testBit k = true → IsLeast D n (R k) k (f k))
    (hv : ∃ k, (1 ≤ k ∧ k < n ∧ S.testBit k = true) ∧ v = D i k + f k) (hm : ∀ k, 1 ≤ k → k < n → S.testBit k = true → v ≤ D i k + f k) : IsLeast D n S i v := by
  constructor
  · obtain ⟨k, hk, rfl⟩ := hv
    obtain ⟨p, hp, hc⟩ := (hf k hk.1 hk.2.1 hk.2.2).some
    exact ⟨k :: p, hp.cons hk (hR k hk.1 hk.2.1 hk.2.2), by rw [cost_cons, hc]⟩
  · intro p hp
    cases p with
    | nil =>
      obtain ⟨k, hk, _⟩ := hv
      exact absurd ((hp.2 k).2 hk) (by simp)
    | cons k p =>
      have hk := (hp.2 k).1 (List.mem_cons_self ..)
      have h1 := (hp.uncons (hR k hk.1 hk.2.1 hk.2.2)).2
      have h2 := (hf k hk.1 hk.2.1 hk.2.2).least p h1
      have h3 := hm k hk.1 hk.2.1 hk.2.2
      rw [cost_cons]; omega
/-- the first way reaches its least over a place -/
theorem IsLeast.via {n S i : Nat} {v : Int} (h : IsLeast D n S i v) (hne : ∃ k, 1 ≤ k ∧ k < n ∧ S.testBit k = true) (R : Nat → Nat) (f : Nat → Int)
    (hR : ∀ k, 1 ≤ k → k < n → S.testBit k = true → Less n S (R k) k) (hf : ∀ k, 1 ≤ k → k < n → S.testBit k = true → IsLeast D n (R k) k (f k)) :
    ∃ k, (1 ≤ k ∧ k < n ∧ S.testBit k = true) ∧ D i k + f k = v := by
  obtain ⟨p, hp, hc⟩ := h.some
  cases p with
  | nil =>
    obtain ⟨k, hk⟩ := hne
    exact absurd ((hp.2 k).2 hk) (by simp)
  | cons k p =>
    have hk := (hp.2 k).1 (List.mem_cons_self ..)
    have h1 := (hp.uncons (hR k hk.1 hk.2.1 hk.2.2)).2
    have h2 := (hf k hk.1 hk.2.1 hk.2.2).least p h1
    obtain ⟨p', hp', hc'⟩ := (hf k hk.1 hk.2.1 hk.2.2).some
    have h3 := h.least (k :: p') (hp'.cons hk (hR k hk.1 hk.2.1 hk.2.2))
    rw [cost_cons] at hc h3
    exact ⟨k, hk, by omega⟩
theorem IsLeast.unique {n S i : Nat} {v v' : Int} (h : IsLeast D n S i v) (h' : IsLeast D n S i v') : v = v' := by
  obtain ⟨p, hp, hc⟩ := h.some
  obtain ⟨p', hp', hc'⟩ := h'.some
  have := h.least p' hp'
  have := h'.least p hp
  omega
/-- a round way over all is the way over the full set -/
theorem perm_en {n S : Nat} (hS : ∀ k, 1 ≤ k → k < n → S.testBit k = true) {p : List Nat} (h : IsPerm n (0 :: p)) : En n S p := by
  have hn := List.nodup_cons.1 h.nodup
  refine ⟨hn.2, fun k => ⟨fun hk => ?_, fun ⟨h1, h2, _⟩ => ?_⟩⟩
  · have h0 : k ≠ 0 := fun e => hn.1 (e ▸ hk)
    exact ⟨by omega, h.lt k (List.mem_cons_of_mem _ hk), hS k (by omega) (h.lt k (List.mem_cons_of_mem _ hk))⟩
  · rcases List.mem_cons.1 (h.all k h2) with e | e
    · omega
    · exact e
theorem longOf_cost {n : Nat} (hn : 2 ≤ n) {p : List Nat} (h : IsPerm n (0 :: p)) : longOf D (0 :: p) = cost D 0 p := by
  cases p with
  | nil => have := h.len; simp at this; omega
  | cons a r => exact longOf_closed D 0 a r
theorem least_all {n S : Nat} (hn : 2 ≤ n) (hS : ∀ k, 1 ≤ k → k < n → S.testBit k = true) {v : Int} (h : IsLeast D n S 0 v) {l : List Nat} (hl : IsPerm n l) : v ≤ longOf D l := by
  obtain ⟨p, hp, hpp⟩ := isPerm_rot D hl (by omega)
  rw [← hp, longOf_cost D hn hpp]
  exact h.least p (perm_en hS hpp)

/-! ### the shortest tree -/
def pairs : List Nat → List (Nat × Nat)
  | [] => []
  | [_] => []
  | a :: b :: r => (a, b) :: pairs (b :: r)
def costE (W : Nat → Nat → Int) (E : List (Nat × Nat)) : Int := (E.map fun e => W e.1 e.2).sum
/-- whatever is the same in I and along E is the same everywhere -/
def Con (n : Nat) (I : Nat → Bool) (E : List (Nat × Nat)) : Prop :=
  ∀ g : Nat → Bool, (∀ i j, i < n → j < n → I i = true → I j = true → g i = g j) → (∀ e ∈ E, g e.1 = g e.2) → ∀ i j, i < n → j < n → g i = g j
inductive Rch (E : List (Nat × Nat)) (I : Nat → Bool) (j : Nat) : Nat → Prop where
  | refl : Rch E I j j
  | step {y z : Nat} (h : Rch E I j y) (he : (y, z) ∈ E ∨ (z, y) ∈ E) (hz : I z = false) : Rch E I j z
theorem Rch.out {E : List (Nat × Nat)} {I : Nat → Bool} {j x : Nat} (h : Rch E I j x) (hj : I j = false) : I x = false := by
  cases h with
  | refl => exact hj
  | step _ _ hz => exact hz
theorem sum_erase (W : Nat → Nat → Int) (E : List (Nat × Nat)) (f : Nat × Nat) (h : f ∈ E) : costE W (E.erase f) + W f.1 f.2 = costE W E := by
  induction E with
  | nil => cases h
  | cons e E ih =>
    by_cases he : e = f
    · subst he
      simp [costE]; omega
    · have hf : f ∈ E := by
        rcases List.mem_cons.1 h with h | h
        · exact absurd h.symm he
        · exact h
      have := ih hf
      rw [List.erase_cons_tail (by simpa using he)]
      simp only [costE, List.map_cons, List.sum_cons] at this ⊢
      omega
theorem prim_step {n : Nat} {W : Nat → Nat → Int} (hW : ∀ a b, W a b = W b a) {I : Nat → Bool} {E : List (Nat × Nat)} (hE : ∀ e ∈ E, e.1 < n ∧ e.2 < n) (hc : Con n I E) {o j : Nat} (ho : o < n) (hoI : I o = true) (hj : j < n) (hjI : I j = false)
    {c : Int} (hmin : ∀ x y, x < n → y < n → I x = true → I y = false → c ≤ W x y) :
    ∃ E', (∀ e ∈ E', e ∈ E) ∧ Con n (fun x => I x || x == j) E' ∧ costE W E' + c ≤ costE W E := by
  -- an edge from what j reaches outside of I into I
  have hex : ∃ e ∈ E, (Rch E I j e.1 ∧ I e.2 = true) ∨ (Rch E I j e.2 ∧ I e.1 = true) := by
    by_cases h : ∃ e ∈ E, (Rch E I j e.1 ∧ I e.2 = true) ∨ (Rch E I j e.2 ∧ I e.1 = true)
    · exact h
    exfalso
    have dec := fun x => Classical.propDecidable (Rch E I j x)
    have h1 := hc (fun x => @decide _ (dec x)) (fun a b _ _ ha hb => by
      have n1 : ¬ Rch E I j a := fun hr => by have := hr.out hjI; rw [ha] at this; cases this
      have n2 : ¬ Rch E I j b := fun hr => by have := hr.out hjI; rw [hb] at this; cases this
      rw [@decide_eq_false _ (dec a) n1, @decide_eq_false _ (dec b) n2]) (fun e he => by
      by_cases r1 : Rch E I j e.1
      · have r2 : Rch E I j e.2 := r1.step (.inl he) (by
          cases hI : I e.2 with
          | false => rfl
          | true => exact absurd ⟨e, he, .inl ⟨r1, hI⟩⟩ h)
        rw [@decide_eq_true _ (dec e.1) r1, @decide_eq_true _ (dec e.2) r2]
      · have r2 : ¬ Rch E I j e.2 := fun r2 => r1 (r2.step (.inr he) (by
          cases hI : I e.1 with
          | false => rfl
          | true => exact absurd ⟨e, he, .inr ⟨r2, hI⟩⟩ h))
        rw [@decide_eq_false _ (dec e.1) r1, @decide_eq_false _ (dec e.2) r2]) j o hj ho
    have n2 : ¬ Rch E I j o := fun hr => by have := hr.out hjI; rw [hoI] at this; cases this
    rw [@decide_eq_true _ (dec j) .refl, @decide_eq_false _ (dec o) n2] at h1
    cases h1
  obtain ⟨f, hf, hff⟩ := hex
  refine ⟨E.erase f, fun e he => List.mem_of_mem_erase he, fun g hgI hgE => ?_, ?_⟩
  · -- an edge outside of I stays
    have hkeep : ∀ e ∈ E, e ≠ f → e ∈ E.erase f := fun e he hne => (List.mem_erase_of_ne hne).2 he
    have hg : ∀ x, Rch E I j x → g x = g j := by
      intro x hx
      induction hx with
      | refl => rfl
      | @step y z hr he hz ih =>
        have hy := hr.out hjI
        rcases he with he | he
        · have hne : (y, z) ≠ f := by
            rintro rfl
            rcases hff with ⟨_, h⟩ | ⟨_, h⟩
            · simp only at h; rw [hz] at h; cases h
            · simp only at h; rw [hy] at h; cases h
          have := hgE _ (hkeep _ he hne)
          simp only at this
          rw [← this]; exact ih
        · have hne : (z, y) ≠ f := by
            rintro rfl
            rcases hff with ⟨_, h⟩ | ⟨_, h⟩
            · simp only at h; rw [hy] at h; cases h
            · simp only at h; rw [hz] at h; cases h
          have := hgE _ (hkeep _ he hne)
          simp only at this
          rw [this]; exact ih
    have hfn := hE f hf
    refine hc g (fun a b ha hb h1 h2 => hgI a b ha hb (by simp [h1]) (by simp [h2])) (fun e he => ?_)
    by_cases hef : e = f
    · subst hef
      rcases hff with ⟨h1, h2⟩ | ⟨h1, h2⟩
      · rw [hg _ h1]; exact hgI j e.2 hj hfn.2 (by simp) (by simp [h2])
      · rw [hg _ h1]; exact hgI e.1 j hfn.1 hj (by simp [h2]) (by simp)
    · exact hgE e (hkeep e he hef)
  · have h1 := sum_erase W E f hf
    have hfn := hE f hf
    have : c ≤ W f.1 f.2 := by
      rcases hff with ⟨h1, h2⟩ | ⟨h1, h2⟩
      · rw [hW]; exact hmin _ _ hfn.2 hfn.1 h2 (h1.out hjI)
      · exact hmin _ _ hfn.1 hfn.2 h2 (h1.out hjI)
    omega
theorem pairs_mem {l : List Nat} : ∀ e ∈ pairs l, e.1 ∈ l ∧ e.2 ∈ l := by
  induction l with
  | nil => simp [pairs]
  | cons a l ih =>
    cases l with
    | nil => simp [pairs]
    | cons b l =>
      intro e he
      rw [pairs] at he
      rcases List.mem_cons.1 he with rfl | he
      · simp
      · obtain ⟨h1, h2⟩ := ih e he
        exact ⟨List.mem_cons_of_mem _ h1, List.mem_cons_of_mem _ h2⟩
theorem pairs_same {l : List Nat} {g : Nat → Bool} (h : ∀ e ∈ pairs l, g e.1 = g e.2) : ∀ x ∈ l, ∀ y ∈ l, g x = g y := by
  induction l with
  | nil => simp
  | cons a l ih =>
    cases l with
    | nil => simp
    | cons b l =>
      have h0 : g a = g b := h (a, b) (by simp [pairs])
      have hi := ih (fun e he => h e (by rw [pairs]; exact List.mem_cons_of_mem _ he))
      intro x hx y hy
      have key : ∀ z ∈ a :: b :: l, g z = g b := fun z hz => by
        rcases List.mem_cons.1 hz with rfl | hz
        · exact h0
        · exact hi z hz b (by simp)
      rw [key x hx, key y hy]
theorem con_perm {n : Nat} {l : List Nat} (h : IsPerm n l) (I : Nat → Bool) : Con n I (pairs l) := fun _ _ hE i j hi hj => pairs_same hE i (h.all i hi) j (h.all j hj)
theorem costE_le {W : Nat → Nat → Int} (hWD : ∀ a b, W a b ≤ D a b) (l : List Nat) : costE W (pairs l) ≤ pathLen D l := by
  induction l with
  | nil => simp [costE, pairs, pathLen]
  | cons a l ih =>
    cases l with
    | nil => simp [costE, pairs, pathLen]
    | cons b l =>
      have := hWD a b
      simp only [costE, pairs, pathLen, List.map_cons, List.sum_cons] at ih ⊢
      omega
theorem costE_nonneg {W : Nat → Nat → Int} (hW : ∀ a b, 0 ≤ W a b) (E : List (Nat × Nat)) : 0 ≤ costE W E := by
  induction E with
  | nil => simp [costE]
  | cons e E ih => have := hW e.1 e.2; simp only [costE, List.map_cons, List.sum_cons] at ih ⊢; omega
theorem pathLen_le_long (hD : ∀ a b, 0 ≤ D a b) (l : List Nat) : pathLen D l ≤ longOf D l := by
  match l with
  | [] => simp [pathLen, longOf]
  | [_] => simp [pathLen, longOf]
  | a :: b :: r => have := hD ((b :: r).getLastD 0) a; simp only [longOf]; omega
end Go.Proofs.Ytlopcegpolpndaa.TripM
