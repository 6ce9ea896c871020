/- Rows that are put in order: what holds of swaps, insertion, turning blocks, merging. Plain. (From the template XStabM.) -/
import Init
namespace Go.Proofs.Ytjndmehhdgiphaa.StabM
/-- the piece [a, b) of a row -/
def seg (f : Nat → Nat) (a b : Nat) : List Nat := (List.range' a (b - a)).map f
/-- the same things in [a, b), all else as it was -/
structure PermOn (a b : Nat) (f g : Nat → Nat) : Prop where
  perm : (seg g a b).Perm (seg f a b)
  out : ∀ i, ¬ (a ≤ i ∧ i < b) → g i = f i
theorem PermOn.refl (a b : Nat) (f : Nat → Nat) : PermOn a b f f := ⟨List.Perm.refl _, fun _ _ => rfl⟩
theorem PermOn.trans {a b : Nat} {f g h : Nat → Nat} (p : PermOn a b f g) (q : PermOn a b g h) : PermOn a b f h :=
  ⟨q.perm.trans p.perm, fun i hi => (q.out i hi).trans (p.out i hi)⟩
theorem seg_split (f : Nat → Nat) {a m b : Nat} (h1 : a ≤ m) (h2 : m ≤ b) : seg f a b = seg f a m ++ seg f m b := by
  unfold seg
  have e := List.range'_append (s := a) (m := m - a) (n := b - m) (step := 1)
  rw [show a + 1 * (m - a) = m by omega, show m - a + (b - m) = b - a by omega] at e
  rw [← e, List.map_append]
theorem seg_congr {f g : Nat → Nat} {a b : Nat} (h : ∀ i, a ≤ i → i < b → f i = g i) : seg f a b = seg g a b := by
  unfold seg
  apply List.map_congr_left
  intro i hi
  have := List.mem_range'_1.1 hi
  exact h i (by omega) (by omega)
theorem seg_one (f : Nat → Nat) (a : Nat) : seg f a (a + 1) = [f a] := by
  unfold seg
  rw [show a + 1 - a = 1 by omega]; rfl
theorem mem_seg {f : Nat → Nat} {a b x : Nat} : x ∈ seg f a b ↔ ∃ i, a ≤ i ∧ i < b ∧ f i = x := by
  unfold seg
  rw [List.mem_map]
  constructor
  · rintro ⟨i, hi, e⟩
    have := List.mem_range'_1.1 hi
    exact ⟨i, by omega, by omega, e⟩
  · rintro ⟨i, h1, h2, e⟩
    exact ⟨i, List.mem_range'_1.2 ⟨h1, by omega⟩, e⟩
theorem PermOn.wide {a b a' b' : Nat} {f g : Nat → Nat} (p : PermOn a b f g) (h1 : a' ≤ a) (h2 : b ≤ b') (h3 : a ≤ b) : PermOn a' b' f g := by
  refine ⟨?_, fun i hi => p.out i (fun h => hi ⟨by omega, by omega⟩)⟩
  rw [seg_split g h1 (by omega : a ≤ b'), seg_split g h3 h2, seg_split f h1 (by omega : a ≤ b'), seg_split f h3 h2]
  rw [seg_congr (f := g) (g := f) (a := a') (b := a) (fun i h4 h5 => p.out i (fun h => by omega)), seg_congr (f := g) (g := f) (a := b) (b := b') (fun i h4 h5 => p.out i (fun h => by omega))]
  exact List.Perm.append_left _ (List.Perm.append_right _ p.perm)
theorem PermOn.lt {a b M : Nat} {f g : Nat → Nat} (p : PermOn a b f g) {n : Nat} (hb : b ≤ n) (h : ∀ i, i < n → f i < M) : ∀ i, i < n → g i < M := fun i hi => by
  by_cases hr : a ≤ i ∧ i < b
  · have hm : g i ∈ seg g a b := mem_seg.2 ⟨i, hr.1, hr.2, rfl⟩
    obtain ⟨j, h1, h2, e⟩ := mem_seg.1 (p.perm.mem_iff.1 hm)
    rw [← e]; exact h j (by omega)
  · rw [p.out i hr]; exact h i hi
def swp (f : Nat → Nat) (i j : Nat) (k : Nat) : Nat := if k = j then f i else if k = i then f j else f k
theorem swp_comm (f : Nat → Nat) (i j k : Nat) : swp f i j k = swp f j i k := by
  unfold swp
  by_cases h1 : k = j
  · by_cases h2 : k = i
    · rw [if_pos h1, if_pos h2, ← h1, ← h2]
    · rw [if_pos h1, if_neg h2, if_pos h1]
  · by_cases h2 : k = i
    · rw [if_neg h1, if_pos h2, if_pos h2]
    · rw [if_neg h1, if_neg h2, if_neg h2, if_neg h1]
theorem swp_perm (f : Nat → Nat) {a b i j : Nat} (hi : a ≤ i) (hij : i < j) (hj : j < b) : PermOn a b f (swp f i j) := by
  refine ⟨?_, fun k hk => by unfold swp; rw [if_neg (by omega), if_neg (by omega)]⟩
  have hs : ∀ g : Nat → Nat, seg g a b = seg g a i ++ ([g i] ++ (seg g (i + 1) j ++ ([g j] ++ seg g (j + 1) b))) := fun g => by
    rw [seg_split g hi (by omega : i ≤ b), seg_split g (show i ≤ i + 1 by omega) (by omega : i + 1 ≤ b), seg_one, seg_split g (show i + 1 ≤ j by omega) (by omega : j ≤ b), seg_split g (show j ≤ j + 1 by omega) (by omega : j + 1 ≤ b), seg_one]
  rw [hs, hs f]
  have e1 : seg (swp f i j) a i = seg f a i := seg_congr (fun k h1 h2 => by unfold swp; rw [if_neg (by omega), if_neg (by omega)])
  have e2 : seg (swp f i j) (i + 1) j = seg f (i + 1) j := seg_congr (fun k h1 h2 => by unfold swp; rw [if_neg (by omega), if_neg (by omega)])
  have e3 : seg (swp f i j) (j + 1) b = seg f (j + 1) b := seg_congr (fun k h1 h2 => by unfold swp; rw [if_neg (by omega), if_neg (by omega)])
  have e4 : swp f i j i = f j := by unfold swp; rw [if_neg (by omega), if_pos rfl]
  have e5 : swp f i j j = f i := by unfold swp; rw [if_pos rfl]
  rw [e1, e2, e3, e4, e5]
  refine List.Perm.append_left _ ?_
  have h1 : ([f j] ++ (seg f (i + 1) j ++ ([f i] ++ seg f (j + 1) b))).Perm (f j :: f i :: (seg f (i + 1) j ++ seg f (j + 1) b)) := by
    refine List.Perm.cons _ ?_
    exact (List.perm_middle (a := f i) (l₁ := seg f (i + 1) j) (l₂ := seg f (j + 1) b))
  have h2 : ([f i] ++ (seg f (i + 1) j ++ ([f j] ++ seg f (j + 1) b))).Perm (f i :: f j :: (seg f (i + 1) j ++ seg f (j + 1) b)) := by
    refine List.Perm.cons _ ?_
    exact (List.perm_middle (a := f j) (l₁ := seg f (i + 1) j) (l₂ := seg f (j + 1) b))
  exact h1.trans ((List.Perm.swap _ _ _).trans h2.symm)

/-- an order among the numbers below M: x stands not behind y -/
structure Pre (M : Nat) (le : Nat → Nat → Prop) : Prop where
  total : ∀ x y, x < M → y < M → le x y ∨ le y x
  trans : ∀ x y z, x < M → y < M → z < M → le x y → le y z → le x z
def SortedOn (le : Nat → Nat → Prop) (f : Nat → Nat) (a b : Nat) : Prop := ∀ i j, a ≤ i → i < j → j < b → le (f i) (f j)
theorem SortedOn.sub {le : Nat → Nat → Prop} {f : Nat → Nat} {a b a' b' : Nat} (h : SortedOn le f a b) (h1 : a ≤ a') (h2 : b' ≤ b) : SortedOn le f a' b' :=
  fun i j hi hij hj => h i j (by omega) hij (by omega)
theorem SortedOn.congr {le : Nat → Nat → Prop} {f g : Nat → Nat} {a b : Nat} (h : SortedOn le f a b) (e : ∀ i, a ≤ i → i < b → g i = f i) : SortedOn le g a b :=
  fun i j hi hij hj => by rw [e i hi (by omega), e j (by omega) hj]; exact h i j hi hij hj
theorem SortedOn.self {le : Nat → Nat → Prop} (f : Nat → Nat) (a : Nat) : SortedOn le f a (a + 1) := fun i j _ _ _ => by omega
theorem SortedOn.empty {le : Nat → Nat → Prop} (f : Nat → Nat) {a b : Nat} (h : b ≤ a) : SortedOn le f a b := fun i j _ _ _ => by omega
/-- sorted but for the one at j, which is no greater than those behind it -/
structure But (le : Nat → Nat → Prop) (f : Nat → Nat) (a i j : Nat) : Prop where
  rest : ∀ p q, a ≤ p → p < q → q ≤ i → p ≠ j → q ≠ j → le (f p) (f q)
  behind : ∀ q, j < q → q ≤ i → le (f j) (f q)
theorem But.start {le : Nat → Nat → Prop} {f : Nat → Nat} {a i : Nat} (h : SortedOn le f a i) : But le f a i i :=
  ⟨fun p q h1 h2 h3 _ h5 => h p q h1 h2 (by omega), fun q h1 h2 => by omega⟩
theorem But.done {M : Nat} {le : Nat → Nat → Prop} (hP : Pre M le) {f : Nat → Nat} {a i j : Nat} (h : But le f a i j) (hM : ∀ k, a ≤ k → k ≤ i → f k < M) (_haj : a ≤ j) (hji : j ≤ i) (he : j = a ∨ le (f (j - 1)) (f j)) : SortedOn le f a (i + 1) := fun p q h1 h2 h3 => by
  by_cases hp : p = j
  · subst hp; exact h.behind q h2 (by omega)
  · by_cases hq : q = j
    · subst hq
      rcases he with he | he
      · omega
      · by_cases hp1 : p = q - 1
        · subst hp1; exact he
        · exact hP.trans _ _ _ (hM p h1 (by omega)) (hM (q - 1) (by omega) (by omega)) (hM q (by omega) (by omega)) (h.rest p (q - 1) h1 (by omega) (by omega) hp (by omega)) he
    · exact h.rest p q h1 h2 (by omega) hp hq
theorem But.step {M : Nat} {le : Nat → Nat → Prop} (_hP : Pre M le) {f : Nat → Nat} {a i j : Nat} (h : But le f a i (j + 1)) (haj : a ≤ j) (hji : j + 1 ≤ i) (hlt : le (f (j + 1)) (f j)) : But le (swp f j (j + 1)) a i j := by
  have e1 : swp f j (j + 1) j = f (j + 1) := by unfold swp; rw [if_neg (by omega), if_pos rfl]
  have e2 : swp f j (j + 1) (j + 1) = f j := by unfold swp; rw [if_pos rfl]
  have e3 : ∀ k, k ≠ j → k ≠ j + 1 → swp f j (j + 1) k = f k := fun k h1 h2 => by unfold swp; rw [if_neg h2, if_neg h1]
  refine ⟨fun p q h1 h2 h3 h4 h5 => ?_, fun q h1 h2 => ?_⟩
  · by_cases hp : p = j + 1
    · subst hp
      rw [e2, e3 q (by omega) (by omega)]
      exact h.rest j q haj (by omega) h3 (by omega) (by omega)
    · by_cases hq : q = j + 1
      · subst hq
        rw [e2, e3 p h4 hp]
        exact h.rest p j h1 (by omega) (by omega) (by omega) (by omega)
      · rw [e3 p h4 hp, e3 q h5 hq]
        exact h.rest p q h1 h2 h3 hp hq
  · rw [e1]
    by_cases hq : q = j + 1
    · subst hq; rw [e2]; exact hlt
    · rw [e3 q (by omega) hq]; exact h.behind q (by omega) h2
/-! ### two blocks change places -/
def swr (f : Nat → Nat) (a b n : Nat) (k : Nat) : Nat := if a ≤ k ∧ k < a + n then f (k - a + b) else if b ≤ k ∧ k < b + n then f (k - b + a) else f k
def turned (f : Nat → Nat) (a m b : Nat) (k : Nat) : Nat := if a ≤ k ∧ k < b then (if k < a + (b - m) then f (k + (m - a)) else f (k - (b - m))) else f k
theorem swr_succ {f g : Nat → Nat} {a b q : Nat} (hab : a + q + 1 ≤ b) (h : ∀ k, g k = swr f a b q k) (k : Nat) : swp g (a + q) (b + q) k = swr f a b (q + 1) k := by
  have e1 : g (a + q) = f (a + q) := by rw [h]; unfold swr; rw [if_neg (by omega), if_neg (by omega)]
  have e2 : g (b + q) = f (b + q) := by rw [h]; unfold swr; rw [if_neg (by omega), if_neg (by omega)]
  unfold swp
  rw [e1, e2]
  by_cases c1 : k = b + q
  · rw [if_pos c1]
    unfold swr
    rw [if_neg (by omega), if_pos (by omega)]
    congr 1; omega
  · rw [if_neg c1]
    by_cases c2 : k = a + q
    · rw [if_pos c2]
      unfold swr
      rw [if_pos (by omega)]
      congr 1; omega
    · rw [if_neg c2, h]
      unfold swr
      by_cases c3 : a ≤ k ∧ k < a + q
      · rw [if_pos c3, if_pos (by omega)]
      · rw [if_neg c3]
        by_cases c4 : b ≤ k ∧ k < b + q
        · rw [if_pos c4, if_neg (by omega), if_pos (by omega)]
        · rw [if_neg c4, if_neg (by omega), if_neg (by omega)]
/-- while blocks are turned: what is not done yet lies in [m - i, m + j) -/
structure Rot (f : Nat → Nat) (a m b i j : Nat) (g : Nat → Nat) : Prop where
  ib : 0 < i ∧ i ≤ m - a ∧ i ≤ m
  jb : 0 < j ∧ m + j ≤ b
  left : ∀ k, k < m - i → g k = turned f a m b k
  right : ∀ k, m + j ≤ k → g k = turned f a m b k
  mid : ∀ k, m - i ≤ k → k < m + j → turned f a m b k = if k < m - i + j then g (k + i) else g (k - j)
theorem Rot.start (f : Nat → Nat) {a m b : Nat} (h1 : a < m) (h2 : m < b) : Rot f a m b (m - a) (b - m) f := by
  refine ⟨by omega, by omega, fun k hk => ?_, fun k hk => ?_, fun k hk1 hk2 => ?_⟩
  · unfold turned; rw [if_neg (by omega)]
  · unfold turned; rw [if_neg (by omega)]
  · unfold turned
    rw [if_pos (by omega)]
    by_cases h : k < a + (b - m)
    · rw [if_pos h, if_pos (by omega)]
    · rw [if_neg h, if_neg (by omega)]
theorem Rot.more {f g : Nat → Nat} {a m b i j : Nat} (h : Rot f a m b i j g) (hij : j < i) : Rot f a m b (i - j) j (swr g (m - i) m j) := by
  have h1 := h.ib
  have h2 := h.jb
  refine ⟨by omega, by omega, fun k hk => ?_, fun k hk => ?_, fun k hk1 hk2 => ?_⟩
  · by_cases hk' : k < m - i
    · unfold swr
      rw [if_neg (by omega), if_neg (by omega)]
      exact h.left k hk'
    · rw [h.mid k (by omega) (by omega), if_pos (by omega)]
      unfold swr
      rw [if_pos (by omega)]
      congr 1; omega
  · unfold swr
    rw [if_neg (by omega), if_neg (by omega)]
    exact h.right k hk
  · rw [h.mid k (by omega) (by omega), if_neg (by omega)]
    by_cases hc : k < m - (i - j) + j
    · rw [if_pos hc]
      unfold swr
      rw [if_neg (by omega), if_pos (by omega)]
      congr 1; omega
    · rw [if_neg hc]
      unfold swr
      rw [if_neg (by omega), if_neg (by omega)]
theorem Rot.less {f g : Nat → Nat} {a m b i j : Nat} (h : Rot f a m b i j g) (hij : i < j) : Rot f a m b i (j - i) (swr g (m - i) (m + j - i) i) := by
  have h1 := h.ib
  have h2 := h.jb
  refine ⟨by omega, by omega, fun k hk => ?_, fun k hk => ?_, fun k hk1 hk2 => ?_⟩
  · unfold swr
    rw [if_neg (by omega), if_neg (by omega)]
    exact h.left k hk
  · by_cases hk' : m + j ≤ k
    · unfold swr
      rw [if_neg (by omega), if_neg (by omega)]
      exact h.right k hk'
    · rw [h.mid k (by omega) (by omega), if_neg (by omega)]
      unfold swr
      rw [if_neg (by omega), if_pos (by omega)]
      congr 1; omega
  · rw [h.mid k (by omega) (by omega), if_pos (by omega)]
    by_cases hc : k < m - i + (j - i)
    · rw [if_pos hc]
      unfold swr
      rw [if_neg (by omega), if_neg (by omega)]
    · rw [if_neg hc]
      unfold swr
      rw [if_pos (by omega)]
      congr 1; omega
theorem Rot.end {f g : Nat → Nat} {a m b i : Nat} (h : Rot f a m b i i g) (k : Nat) : swr g (m - i) m i k = turned f a m b k := by
  have h1 := h.ib
  have h2 := h.jb
  by_cases hk : k < m - i
  · rw [← h.left k hk]
    unfold swr
    rw [if_neg (by omega), if_neg (by omega)]
  · by_cases hk2 : m + i ≤ k
    · rw [← h.right k hk2]
      unfold swr
      rw [if_neg (by omega), if_neg (by omega)]
    · rw [h.mid k (by omega) (by omega)]
      by_cases hc : k < m
      · rw [if_pos (by omega)]
        unfold swr
        rw [if_pos (by omega)]
        congr 1; omega
      · rw [if_neg (by omega)]
        unfold swr
        rw [if_neg (by omega), if_pos (by omega)]
        congr 1; omega
theorem turned_perm (f : Nat → Nat) {a m b : Nat} (h1 : a ≤ m) (h2 : m ≤ b) : PermOn a b f (turned f a m b) := by
  refine ⟨?_, fun k hk => by unfold turned; rw [if_neg hk]⟩
  have e : seg (turned f a m b) a b = seg f m b ++ seg f a m := by
    rw [seg_split (turned f a m b) (show a ≤ a + (b - m) by omega) (by omega : a + (b - m) ≤ b)]
    congr 1
    · unfold seg
      rw [show a + (b - m) - a = b - m by omega]
      apply List.ext_getElem
      · simp
      · intro k hk1 hk2
        simp only [List.length_map, List.length_range'] at hk1
        simp only [List.getElem_map, List.getElem_range']
        unfold turned
        rw [if_pos (by omega), if_pos (by omega)]
        congr 1; omega
    · unfold seg
      rw [show b - (a + (b - m)) = m - a by omega]
      apply List.ext_getElem
      · simp
      · intro k hk1 hk2
        simp only [List.length_map, List.length_range'] at hk1
        simp only [List.getElem_map, List.getElem_range']
        unfold turned
        rw [if_pos (by omega), if_neg (by omega)]
        congr 1; omega
  rw [e, seg_split f h1 h2]
  exact List.perm_append_comm
/-! ### one is put in among many -/
/-- the one at a goes on to k -/
def onTo (f : Nat → Nat) (a k : Nat) (x : Nat) : Nat := if a ≤ x ∧ x < k then f (x + 1) else if x = k then f a else f x
theorem onTo_self (f : Nat → Nat) (a x : Nat) : onTo f a a x = f x := by
  unfold onTo
  rw [if_neg (by omega)]
  split
  · rename_i h; rw [h]
  · rfl
theorem onTo_succ (f : Nat → Nat) {a k : Nat} (h : a ≤ k) (x : Nat) : swp (onTo f a k) k (k + 1) x = onTo f a (k + 1) x := by
  unfold swp onTo
  by_cases h1 : x = k + 1
  · rw [if_pos h1, if_neg (by omega), if_pos rfl, if_neg (by omega), if_pos h1]
  · rw [if_neg h1]
    by_cases h2 : x = k
    · rw [if_pos h2, if_neg (by omega), if_neg (by omega), if_pos (by omega), h2]
    · rw [if_neg h2]
      by_cases h3 : a ≤ x ∧ x < k
      · rw [if_pos h3, if_pos (by omega)]
      · rw [if_neg h3, if_neg h2, if_neg (by omega), if_neg h1]
theorem onTo_sorted {M : Nat} {le : Nat → Nat → Prop} (hP : Pre M le) {f : Nat → Nat} {a b i : Nat} (hM : ∀ k, k < b → f k < M) (h : SortedOn le f (a + 1) b) (ha : a + 1 ≤ i) (hb : i ≤ b)
    (h1 : i = a + 1 ∨ le (f (i - 1)) (f a)) (h2 : i = b ∨ le (f a) (f i)) : SortedOn le (onTo f a (i - 1)) a b := by
  have lo : ∀ x, a ≤ x → x < i - 1 → onTo f a (i - 1) x = f (x + 1) := fun x h3 h4 => by unfold onTo; rw [if_pos ⟨h3, h4⟩]
  have at' : onTo f a (i - 1) (i - 1) = f a := by unfold onTo; rw [if_neg (by omega), if_pos rfl]
  have hi : ∀ x, i - 1 < x → onTo f a (i - 1) x = f x := fun x h3 => by unfold onTo; rw [if_neg (by omega), if_neg (by omega)]
  have below : ∀ y, a + 1 ≤ y → y < i → le (f y) (f a) := fun y h3 h4 => by
    rcases h1 with h1 | h1
    · omega
    · by_cases e : y = i - 1
      · rw [e]; exact h1
      · exact hP.trans _ _ _ (hM y (by omega)) (hM (i - 1) (by omega)) (hM a (by omega)) (h y (i - 1) h3 (by omega) (by omega)) h1
  have above : ∀ y, i ≤ y → y < b → le (f a) (f y) := fun y h3 h4 => by
    rcases h2 with h2 | h2
    · omega
    · by_cases e : y = i
      · rw [e]; exact h2
      · exact hP.trans _ _ _ (hM a (by omega)) (hM i (by omega)) (hM y h4) h2 (h i y ha (by omega) h4)
  intro x y hx hxy hy
  by_cases c1 : x < i - 1
  · rw [lo x hx c1]
    by_cases c2 : y < i - 1
    · rw [lo y (by omega) c2]; exact h _ _ (by omega) (by omega) (by omega)
    · by_cases c3 : y = i - 1
      · rw [c3, at']; exact below _ (by omega) (by omega)
      · rw [hi y (by omega)]; exact h _ _ (by omega) (by omega) hy
  · by_cases c4 : x = i - 1
    · rw [c4, at', hi y (by omega)]; exact above y (by omega) hy
    · rw [hi x (by omega), hi y (by omega)]; exact h x y (by omega) hxy hy
/-- the one at m comes down to k -/
def back (f : Nat → Nat) (m k : Nat) (x : Nat) : Nat := if k < x ∧ x ≤ m then f (x - 1) else if x = k then f m else f x
theorem back_self (f : Nat → Nat) (m x : Nat) : back f m m x = f x := by
  unfold back
  rw [if_neg (by omega)]
  split
  · rename_i h; rw [h]
  · rfl
theorem back_pred (f : Nat → Nat) {m k : Nat} (h : k + 1 ≤ m) (x : Nat) : swp (back f m (k + 1)) k (k + 1) x = back f m k x := by
  unfold swp back
  by_cases h1 : x = k + 1
  · rw [if_pos h1, if_neg (by omega), if_neg (by omega), if_pos (by omega), h1]; rfl
  · rw [if_neg h1]
    by_cases h2 : x = k
    · rw [if_pos h2, if_neg (by omega), if_pos rfl, if_neg (by omega), if_pos h2]
    · rw [if_neg h2]
      by_cases h3 : k + 1 < x ∧ x ≤ m
      · rw [if_pos h3, if_pos (by omega)]
      · rw [if_neg h3, if_neg h1, if_neg (by omega), if_neg h2]
theorem back_sorted {M : Nat} {le : Nat → Nat → Prop} (hP : Pre M le) {f : Nat → Nat} {a m i : Nat} (hM : ∀ k, k < m + 1 → f k < M) (h : SortedOn le f a m) (ha : a ≤ i) (hb : i ≤ m)
    (h1 : i = a ∨ le (f (i - 1)) (f m)) (h2 : i = m ∨ le (f m) (f i)) : SortedOn le (back f m i) a (m + 1) := by
  have lo : ∀ x, x < i → back f m i x = f x := fun x h3 => by unfold back; rw [if_neg (by omega), if_neg (by omega)]
  have at' : back f m i i = f m := by unfold back; rw [if_neg (by omega), if_pos rfl]
  have hi : ∀ x, i < x → x ≤ m → back f m i x = f (x - 1) := fun x h3 h4 => by unfold back; rw [if_pos ⟨h3, h4⟩]
  have below : ∀ y, a ≤ y → y < i → le (f y) (f m) := fun y h3 h4 => by
    rcases h1 with h1 | h1
    · omega
    · by_cases e : y = i - 1
      · rw [e]; exact h1
      · exact hP.trans _ _ _ (hM y (by omega)) (hM (i - 1) (by omega)) (hM m (by omega)) (h y (i - 1) h3 (by omega) (by omega)) h1
  have above : ∀ y, i ≤ y → y < m → le (f m) (f y) := fun y h3 h4 => by
    rcases h2 with h2 | h2
    · omega
    · by_cases e : y = i
      · rw [e]; exact h2
      · exact hP.trans _ _ _ (hM m (by omega)) (hM i (by omega)) (hM y (by omega)) h2 (h i y ha (by omega) h4)
  intro x y hx hxy hy
  by_cases c1 : x < i
  · rw [lo x c1]
    by_cases c2 : y < i
    · rw [lo y c2]; exact h _ _ hx hxy (by omega)
    · by_cases c3 : y = i
      · rw [c3, at']; exact below _ hx c1
      · rw [hi y (by omega) (by omega)]; exact h _ _ hx (by omega) (by omega)
  · by_cases c4 : x = i
    · rw [c4, at', hi y (by omega) (by omega)]; exact above _ (by omega) (by omega)
    · rw [hi x (by omega) (by omega), hi y (by omega) (by omega)]; exact h _ _ (by omega) (by omega) (by omega)
/-! ### two sorted pieces are merged -/
/-- where the cut lies -/
structure CutAt (le : Nat → Nat → Prop) (f : Nat → Nat) (a m b s e : Nat) : Prop where
  r : a ≤ s ∧ s ≤ m ∧ m ≤ e ∧ e ≤ b
  up : a < s → e < b → le (f (s - 1)) (f e)
  down : s < m → m < e → le (f (e - 1)) (f s)
structure Halves (le : Nat → Nat → Prop) (g : Nat → Nat) (a s k e b : Nat) : Prop where
  r : a ≤ s ∧ s ≤ k ∧ k ≤ e ∧ e ≤ b
  s1 : SortedOn le g a s
  s2 : SortedOn le g s k
  s3 : SortedOn le g k e
  s4 : SortedOn le g e b
  cross : ∀ x y, a ≤ x → x < k → k ≤ y → y < b → le (g x) (g y)
theorem CutAt.halves {M : Nat} {le : Nat → Nat → Prop} (hP : Pre M le) {f : Nat → Nat} {a m b s e : Nat} (hM : ∀ k, k < b → f k < M) (c : CutAt le f a m b s e) (h1 : SortedOn le f a m) (h2 : SortedOn le f m b) :
    Halves le (turned f s m e) a s (s + (e - m)) e b := by
  obtain ⟨r1, r2, r3, r4⟩ := c.r
  have t1 : ∀ x, x < s → turned f s m e x = f x := fun x hx => by unfold turned; rw [if_neg (by omega)]
  have t2 : ∀ x, s ≤ x → x < s + (e - m) → turned f s m e x = f (x + (m - s)) := fun x h3 h4 => by unfold turned; rw [if_pos (by omega), if_pos h4]
  have t3 : ∀ x, s + (e - m) ≤ x → x < e → turned f s m e x = f (x - (e - m)) := fun x h3 h4 => by unfold turned; rw [if_pos (by omega), if_neg (by omega)]
  have t4 : ∀ x, e ≤ x → turned f s m e x = f x := fun x hx => by unfold turned; rw [if_neg (by omega)]
  have tr := hP.trans
  refine ⟨by omega, fun x y h3 h4 h5 => ?_, fun x y h3 h4 h5 => ?_, fun x y h3 h4 h5 => ?_, fun x y h3 h4 h5 => ?_, fun x y h3 h4 h5 h6 => ?_⟩
  · rw [t1 x (by omega), t1 y h5]; exact h1 x y h3 h4 (by omega)
  · rw [t2 x h3 (by omega), t2 y (by omega) h5]; exact h2 _ _ (by omega) (by omega) (by omega)
  · rw [t3 x h3 (by omega), t3 y (by omega) h5]; exact h1 _ _ (by omega) (by omega) (by omega)
  · rw [t4 x h3, t4 y (by omega)]; exact h2 x y (by omega) h4 h5
  · by_cases cx : x < s
    · rw [t1 x cx]
      by_cases cy : y < e
      · rw [t3 y h5 cy]; exact h1 _ _ h3 (by omega) (by omega)
      · rw [t4 y (by omega)]
        have h7 := c.up (by omega) (by omega)
        have h8 : le (f x) (f e) := by
          by_cases e1 : x = s - 1
          · rw [e1]; exact h7
          · exact tr _ _ _ (hM x (by omega)) (hM (s - 1) (by omega)) (hM e (by omega)) (h1 x (s - 1) h3 (by omega) (by omega)) h7
        by_cases e2 : y = e
        · rw [e2]; exact h8
        · exact tr _ _ _ (hM x (by omega)) (hM e (by omega)) (hM y h6) h8 (h2 e y r3 (by omega) h6)
    · rw [t2 x (by omega) h4]
      by_cases cy : y < e
      · rw [t3 y h5 cy]
        have h7 := c.down (by omega) (by omega)
        have h8 : le (f (x + (m - s))) (f s) := by
          by_cases e1 : x + (m - s) = e - 1
          · rw [e1]; exact h7
          · exact tr _ _ _ (hM _ (by omega)) (hM (e - 1) (by omega)) (hM s (by omega)) (h2 (x + (m - s)) (e - 1) (by omega) (by omega) (by omega)) h7
        by_cases e2 : y - (e - m) = s
        · rw [e2]; exact h8
        · exact tr _ _ _ (hM _ (by omega)) (hM s (by omega)) (hM _ (by omega)) h8 (h1 s (y - (e - m)) r1 (by omega) (by omega))
      · rw [t4 y (by omega)]; exact h2 _ _ (by omega) (by omega) h6
/-- the lower half is put in order -/
theorem Halves.low {le : Nat → Nat → Prop} {g h : Nat → Nat} {a s k e b : Nat} (H : Halves le g a s k e b) (p : PermOn a k g h) (hs : SortedOn le h a k) : Halves le h a k k e b := by
  obtain ⟨r1, r2, r3, r4⟩ := H.r
  have ho : ∀ i, k ≤ i → h i = g i := fun i hi => p.out i (by omega)
  refine ⟨by omega, hs, fun x y h1 h2 h3 => by omega, H.s3.congr (fun i h1 _ => ho i h1), H.s4.congr (fun i h1 _ => ho i (by omega)), fun x y h1 h2 h3 h4 => ?_⟩
  have hm : h x ∈ seg h a k := mem_seg.2 ⟨x, h1, h2, rfl⟩
  obtain ⟨j, j1, j2, je⟩ := mem_seg.1 (p.perm.mem_iff.1 hm)
  rw [ho y h3, ← je]
  exact H.cross j y j1 j2 h3 h4
/-- the upper half is put in order -/
theorem Halves.high {le : Nat → Nat → Prop} {g h : Nat → Nat} {a s k e b : Nat} (H : Halves le g a s k e b) (p : PermOn k b g h) (hs : SortedOn le h k b) : Halves le h a s k k b := by
  obtain ⟨r1, r2, r3, r4⟩ := H.r
  have ho : ∀ i, i < k → h i = g i := fun i hi => p.out i (by omega)
  refine ⟨by omega, H.s1.congr (fun i _ h2 => ho i (by omega)), H.s2.congr (fun i _ h2 => ho i h2), fun x y h1 h2 h3 => by omega, hs, fun x y h1 h2 h3 h4 => ?_⟩
  have hm : h y ∈ seg h k b := mem_seg.2 ⟨y, h3, h4, rfl⟩
  obtain ⟨j, j1, j2, je⟩ := mem_seg.1 (p.perm.mem_iff.1 hm)
  rw [ho x h2, ← je]
  exact H.cross x j h1 h2 j1 j2
theorem Halves.whole {le : Nat → Nat → Prop} {g : Nat → Nat} {a k b : Nat} (h1 : SortedOn le g a k) (h2 : SortedOn le g k b) (hc : ∀ x y, a ≤ x → x < k → k ≤ y → y < b → le (g x) (g y)) : SortedOn le g a b := fun x y hx hxy hy => by
  by_cases c1 : y < k
  · exact h1 x y hx hxy c1
  · by_cases c2 : x < k
    · exact hc x y hx c2 (by omega) hy
    · exact h2 x y (by omega) hxy hy
end Go.Proofs.Ytjndmehhdgiphaa.StabM
