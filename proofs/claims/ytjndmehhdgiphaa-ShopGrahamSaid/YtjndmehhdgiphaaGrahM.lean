/- Graham's bounds for lists, and for the longest first. Plain. -/
import Init
namespace Go.Proofs.Ytjndmehhdgiphaa.GrahM

/-- of these jobs, those of one machine, weighed -/
def gl (W : Nat → Int) (mu : Nat → Int) : List Nat → Int → Int
  | [], _ => 0
  | x :: js, j => (if mu x = j then W x else 0) + gl W mu js j
def sm (W : Nat → Int) : List Nat → Int
  | [] => 0
  | x :: js => W x + sm W js
variable {W p mu mu' : Nat → Int} {r js : List Nat} {M : Nat}
theorem gl_append (j : Int) : ∀ a b : List Nat, gl W mu (a ++ b) j = gl W mu a j + gl W mu b j
  | [], b => by simp [gl]
  | x :: a, b => by
    show (if mu x = j then W x else 0) + gl W mu (a ++ b) j = (if mu x = j then W x else 0) + gl W mu a j + gl W mu b j
    rw [gl_append j a b]; omega
theorem sm_append : ∀ a b : List Nat, sm W (a ++ b) = sm W a + sm W b
  | [], b => by simp [sm]
  | x :: a, b => by
    show W x + sm W (a ++ b) = W x + sm W a + sm W b
    rw [sm_append a b]; omega
theorem gl_congr (j : Int) : ∀ {a : List Nat}, (∀ x ∈ a, mu x = mu' x) → gl W mu a j = gl W mu' a j
  | [], _ => rfl
  | x :: a, h => by
    show (if mu x = j then W x else 0) + gl W mu a j = (if mu' x = j then W x else 0) + gl W mu' a j
    rw [h x (List.mem_cons_self ..), gl_congr j (fun y hy => h y (List.mem_cons_of_mem _ hy))]
theorem sm_perm {a b : List Nat} (h : a.Perm b) : sm W a = sm W b := by
  induction h with
  | nil => rfl
  | cons x _ ih => show W x + _ = W x + _; rw [ih]
  | swap x y l => show W y + (W x + _) = W x + (W y + _); omega
  | trans _ _ h1 h2 => rw [h1, h2]
theorem gl_nonneg (j : Int) : ∀ {a : List Nat}, (∀ x ∈ a, 0 ≤ W x) → 0 ≤ gl W mu a j
  | [], _ => Int.le_refl _
  | x :: a, h => by
    have h1 := gl_nonneg j (a := a) (fun y hy => h y (List.mem_cons_of_mem _ hy))
    have h2 := h x (List.mem_cons_self ..)
    show 0 ≤ (if mu x = j then W x else 0) + gl W mu a j
    split <;> omega
theorem sm_nonneg : ∀ {a : List Nat}, (∀ x ∈ a, 0 ≤ W x) → 0 ≤ sm W a
  | [], _ => Int.le_refl _
  | x :: a, h => by
    have h1 := sm_nonneg (a := a) (fun y hy => h y (List.mem_cons_of_mem _ hy))
    have h2 := h x (List.mem_cons_self ..)
    show 0 ≤ W x + sm W a
    omega
/-- over the machines -/
def tot (f : Int → Int) : Nat → Int
  | 0 => 0
  | m + 1 => tot f m + f m
theorem tot_le {f : Int → Int} {C : Int} : ∀ {m : Nat}, (∀ j : Nat, j < m → f j ≤ C) → tot f m ≤ m * C
  | 0, _ => by simp [tot]
  | m + 1, h => by
    have h1 := tot_le (m := m) (fun j hj => h j (by omega))
    have h2 := h m (by omega)
    show tot f m + f m ≤ ((m + 1 : Nat) : Int) * C
    rw [Int.natCast_add, Int.add_mul]
    simp
    omega
theorem tot_ge {f : Int → Int} {C : Int} : ∀ {m : Nat}, (∀ j : Nat, j < m → C ≤ f j) → m * C ≤ tot f m
  | 0, _ => by simp [tot]
  | m + 1, h => by
    have h1 := tot_ge (m := m) (fun j hj => h j (by omega))
    have h2 := h m (by omega)
    show ((m + 1 : Nat) : Int) * C ≤ tot f m + f m
    rw [Int.natCast_add, Int.add_mul]
    simp
    omega
theorem tot_add (f g : Int → Int) : ∀ m, tot (fun j => f j + g j) m = tot f m + tot g m
  | 0 => rfl
  | m + 1 => by
    show tot (fun j => f j + g j) m + (f m + g m) = tot f m + f m + (tot g m + g m)
    rw [tot_add f g m]; omega
theorem tot_one (a v : Int) : ∀ m : Nat, 0 ≤ a → tot (fun j => if a = j then v else 0) m = if a < m then v else 0
  | 0, h => by rw [if_neg (by omega)]; rfl
  | m + 1, h => by
    show tot _ m + (if a = (m : Int) then v else 0) = _
    rw [tot_one a v m h]
    by_cases e : a = m
    · rw [if_neg (by omega), if_pos e, if_pos (by omega)]; omega
    · rw [if_neg e]
      by_cases e2 : a < m
      · rw [if_pos e2, if_pos (by omega)]; omega
      · rw [if_neg e2, if_neg (by omega)]; omega
theorem tot_congr {f g : Int → Int} : ∀ {m : Nat}, (∀ j, f j = g j) → tot f m = tot g m
  | 0, _ => rfl
  | m + 1, h => by
    show tot f m + f m = tot g m + g m
    rw [tot_congr (m := m) h, h]
theorem tot_gl : ∀ {a : List Nat}, (∀ x ∈ a, 0 ≤ mu x ∧ mu x < M) → tot (gl W mu a) M = sm W a
  | [], _ => by
    have : ∀ m, tot (gl W mu []) m = 0 := fun m => by
      induction m with
      | zero => rfl
      | succ m ih => show tot _ m + 0 = 0; rw [ih]; rfl
    exact this M
  | x :: a, h => by
    have h1 := tot_gl (a := a) (fun y hy => h y (List.mem_cons_of_mem _ hy))
    obtain ⟨h2, h3⟩ := h x (List.mem_cons_self ..)
    have h4 : tot (gl W mu (x :: a)) M = tot (fun j => (if mu x = j then W x else 0) + gl W mu a j) M := tot_congr (fun j => rfl)
    rw [h4, tot_add (fun j => if mu x = j then W x else 0) (gl W mu a), tot_one _ _ _ h2, if_pos h3, h1]; rfl

/-- a plan by a list: where each job goes, and when it begins -/
structure Ls (p : Nat → Int) (M : Nat) (r : List Nat) (mu s : Nat → Int) (E : Int) : Prop where
  at_ : ∀ (i x : Nat), r[i]? = some x → 0 ≤ mu x ∧ mu x < M ∧ s x = gl p mu (r.take i) (mu x) ∧ (∀ j : Int, 0 ≤ j → j < M → s x ≤ gl p mu (r.take i) j) ∧ s x + p x ≤ E
  last : E = 0 ∨ ∃ i x : Nat, r[i]? = some x ∧ E = s x + p x
theorem ls_start : Ls p M [] mu mu' 0 := ⟨fun i x h => by simp at h, .inl rfl⟩
theorem ls_next {s : Nat → Int} {E : Int} {x : Nat} {c : Int} (h : Ls p M r mu s E) (hx : x ∉ r) (hc : 0 ≤ c ∧ c < M) (hmin : ∀ j : Int, 0 ≤ j → j < M → gl p mu r c ≤ gl p mu r j) :
    Ls p M (r ++ [x]) (fun y => if y = x then c else mu y) (fun y => if y = x then gl p mu r c else s y) (max E (gl p mu r c + p x)) := by
  have hcg : ∀ (i : Nat) (j : Int), gl p (fun y => if y = x then c else mu y) (r.take i) j = gl p mu (r.take i) j := fun i j => gl_congr j (fun y hy => by
    have : y ≠ x := fun e => hx (by rw [← e]; exact List.mem_of_mem_take hy)
    simp [this])
  refine ⟨fun i y hy => ?_, ?_⟩
  · by_cases hi : i < r.length
    · rw [List.getElem?_append_left hi] at hy
      have hne : y ≠ x := fun e => hx (by rw [← e]; exact List.mem_of_getElem? hy)
      obtain ⟨h1, h2, h3, h4, h5⟩ := h.at_ i y hy
      simp only [hne, if_false]
      rw [List.take_append_of_le_length (by omega)]
      exact ⟨h1, h2, by rw [hcg]; exact h3, fun j a b => by rw [hcg]; exact h4 j a b, by omega⟩
    · rw [List.getElem?_append_right (by omega)] at hy
      have hl : i = r.length := by
        have := (List.getElem?_eq_some_iff.1 hy).1
        simp at this; omega
      subst hl
      simp at hy
      subst hy
      have hcg' := fun j => hcg r.length j
      rw [List.take_length] at hcg'
      have e : (r ++ [x]).take r.length = r := by simp
      simp only [if_true, e]
      exact ⟨hc.1, hc.2, by rw [hcg'], fun j a b => by rw [hcg']; exact hmin j a b, by omega⟩
  · by_cases e : E < gl p mu r c + p x
    · right
      exact ⟨r.length, x, by simp, by simp; omega⟩
    · rcases h.last with h0 | ⟨i, y, hy, he⟩
      · left; omega
      · right
        have hi := (List.getElem?_eq_some_iff.1 hy).1
        have hne : y ≠ x := fun e => hx (by rw [← e]; exact List.mem_of_getElem? hy)
        exact ⟨i, y, by rw [List.getElem?_append_left hi]; exact hy, by simp only [hne, if_false]; omega⟩
section
variable {s : Nat → Int} {E : Int}
theorem Ls.nonneg (h : Ls p M r mu s E) (h0 : ∀ x ∈ r, 0 ≤ p x) : 0 ≤ E := by
  rcases h.last with h1 | ⟨i, x, hx, he⟩
  · omega
  · obtain ⟨_, _, h3, _, _⟩ := h.at_ i x hx
    have := gl_nonneg (W := p) (mu := mu) (mu x) (a := r.take i) (fun y hy => h0 y (List.mem_of_mem_take hy))
    have := h0 x (List.mem_of_getElem? hx)
    omega
theorem Ls.mach (h : Ls p M r mu s E) : ∀ x ∈ r, 0 ≤ mu x ∧ mu x < M := fun x hx => by
  obtain ⟨i, hi⟩ := List.getElem?_of_mem hx
  obtain ⟨h1, h2, _⟩ := h.at_ i x hi
  exact ⟨h1, h2⟩
theorem Ls.start (h : Ls p M r mu s E) {i x : Nat} (hx : r[i]? = some x) : M * s x ≤ sm p (r.take i) := by
  obtain ⟨_, _, _, h4, _⟩ := h.at_ i x hx
  rw [← tot_gl (W := p) (mu := mu) (M := M) (a := r.take i) (fun y hy => h.mach y (List.mem_of_mem_take hy))]
  exact tot_ge (fun j hj => h4 j (by omega) (by omega))
/-- each machine is done by the end -/
theorem Ls.load (h : Ls p M r mu s E) (h0 : ∀ x ∈ r, 0 ≤ p x) {C : Int} (hC : 0 ≤ C) (j : Int) : ∀ i, (∀ k x, k < i → r[k]? = some x → s x + p x ≤ C) → gl p mu (r.take i) j ≤ C
  | 0, _ => by simp [gl]; exact hC
  | i + 1, hk => by
    by_cases hi : i < r.length
    · have h1 := Ls.load h h0 hC j i (fun k x hk' => hk k x (by omega))
      have hx : r[i]? = some r[i] := List.getElem?_eq_getElem hi
      rw [List.take_succ_eq_append_getElem hi, gl_append]
      show _ + ((if mu r[i] = j then p r[i] else 0) + 0) ≤ C
      by_cases e : mu r[i] = j
      · rw [if_pos e]
        obtain ⟨_, _, h3, _, _⟩ := h.at_ i _ hx
        have := hk i _ (by omega) hx
        rw [← e]
        omega
      · rw [if_neg e]; omega
    · have h1 := Ls.load h h0 hC j i (fun k x hk' => hk k x (by omega))
      rw [List.take_of_length_le (by omega)] at h1 ⊢
      exact h1
theorem Ls.load' (h : Ls p M r mu s E) (h0 : ∀ x ∈ r, 0 ≤ p x) (j : Int) : gl p mu r j ≤ E := by
  have := h.load h0 (h.nonneg h0) j r.length (fun k x _ hx => (h.at_ k x hx).2.2.2.2)
  rw [List.take_length] at this
  exact this
theorem Ls.all (h : Ls p M r mu s E) (h0 : ∀ x ∈ r, 0 ≤ p x) : sm p r ≤ M * E := by
  rw [← tot_gl (W := p) (M := M) h.mach]
  exact tot_le (fun j _ => h.load' h0 j)
theorem Ls.each (h : Ls p M r mu s E) (h0 : ∀ x ∈ r, 0 ≤ p x) : ∀ x ∈ r, p x ≤ E := fun x hx => by
  obtain ⟨i, hi⟩ := List.getElem?_of_mem hx
  obtain ⟨_, _, h3, _, h5⟩ := h.at_ i x hi
  have := gl_nonneg (W := p) (mu := mu) (mu x) (a := r.take i) (fun y hy => h0 y (List.mem_of_mem_take hy))
  omega
theorem sm_split {i x : Nat} (h0 : ∀ y ∈ r, 0 ≤ p y) (hx : r[i]? = some x) : sm p (r.take i) + p x ≤ sm p r := by
  obtain ⟨hi, he⟩ := List.getElem?_eq_some_iff.1 hx
  have e : r = r.take i ++ x :: r.drop (i + 1) := by rw [← he, List.getElem_cons_drop, List.take_append_drop]
  have h1 : sm p r = sm p (r.take i) + (p x + sm p (r.drop (i + 1))) := by
    conv => lhs; rw [e, sm_append]
    rfl
  have := sm_nonneg (W := p) (a := r.drop (i + 1)) (fun y hy => h0 y (List.mem_of_mem_drop hy))
  omega
theorem pos_mul {a : Int} {M : Nat} (ha : 0 ≤ a) (hM : 1 ≤ M) : (M : Int) * a = a + ((M : Int) - 1) * a ∧ 0 ≤ ((M : Int) - 1) * a := by
  refine ⟨by rw [Int.sub_mul]; omega, Int.mul_nonneg (by omega) ha⟩
/-- within 2 - 1/m -/
theorem Ls.two (h : Ls p M r mu s E) (h0 : ∀ x ∈ r, 0 ≤ p x) (hM : 1 ≤ M) {C : Int} (hC : 0 ≤ C) (hC1 : ∀ x ∈ r, p x ≤ C) (hC2 : sm p r ≤ M * C) : E * M ≤ C * (2 * M - 1) := by
  have e1 : C * (2 * M - 1) = M * C + ((M : Int) - 1) * C := by rw [Int.mul_sub, Int.sub_mul, Int.mul_comm C (2 * M), Int.mul_assoc]; omega
  rcases h.last with h1 | ⟨i, x, hx, he⟩
  · rw [h1, e1]
    have := pos_mul hC hM
    omega
  · have h2 := h.start hx
    have h3 := sm_split h0 hx
    have h4 := hC1 x (List.mem_of_getElem? hx)
    have h5 := h0 x (List.mem_of_getElem? hx)
    have h6 : ((M : Int) - 1) * p x ≤ ((M : Int) - 1) * C := Int.mul_le_mul_of_nonneg_left h4 (by omega)
    have h7 : E * M = M * s x + (p x + ((M : Int) - 1) * p x) := by
      rw [he, Int.add_mul, Int.mul_comm (s x), Int.mul_comm (p x), (pos_mul h5 hM).1]
    rw [h7, e1]
    omega

/-- jobs of one machine, weighed: not more than two -/
theorem two_le {W p mu : Nat → Int} {q C : Int} {j : Int} {a : List Nat} (ha : ∀ x ∈ a, q ≤ p x) (hq : 0 ≤ q) (h3 : C < 3 * q) (hs : gl p mu a j ≤ C) (hW : ∀ x, W x = if C < p x + q then 2 else 1) : gl W mu a j ≤ 2 := by
  have key : ∀ (a : List Nat), (∀ x ∈ a, q ≤ p x) → gl p mu a j ≤ C → (gl p mu a j = 0 ∧ gl W mu a j = 0) ∨ (q ≤ gl p mu a j ∧ 0 ≤ gl W mu a j ∧ (gl W mu a j ≤ 1 ∨ (gl W mu a j = 2 ∧ C < gl p mu a j + q))) := by
    intro a
    induction a with
    | nil => intro _ _; exact .inl ⟨rfl, rfl⟩
    | cons x a ih =>
      intro ha hs
      have hx := ha x (List.mem_cons_self ..)
      have ha' : ∀ y ∈ a, q ≤ p y := fun y hy => ha y (List.mem_cons_of_mem _ hy)
      have hnn := gl_nonneg (W := p) (mu := mu) j (a := a) (fun y hy => by have := ha' y hy; omega)
      have e1 : gl p mu (x :: a) j = (if mu x = j then p x else 0) + gl p mu a j := rfl
      have e2 : gl W mu (x :: a) j = (if mu x = j then W x else 0) + gl W mu a j := rfl
      rw [e1] at hs ⊢
      rw [e2]
      by_cases e : mu x = j
      · rw [if_pos e] at hs ⊢
        rw [if_pos e]
        have hWx := hW x
        rcases ih ha' (by omega) with ⟨i1, i2⟩ | ⟨i1, i2, i3⟩
        · rw [i1, i2]
          right
          by_cases hb : C < p x + q
          · rw [if_pos hb] at hWx
            exact ⟨by omega, by omega, .inr ⟨by omega, by omega⟩⟩
          · rw [if_neg hb] at hWx
            exact ⟨by omega, by omega, .inl (by omega)⟩
        · right
          rcases i3 with i3 | ⟨i3, i4⟩
          · have hb : ¬ C < p x + q := by omega
            rw [if_neg hb] at hWx
            refine ⟨by omega, by omega, ?_⟩
            by_cases e0 : gl W mu a j = 0
            · left; omega
            · right; exact ⟨by omega, by omega⟩
          · omega
      · rw [if_neg e] at hs ⊢
        rw [if_neg e]
        simp only [Int.zero_add] at hs ⊢
        exact ih ha' hs
  rcases key a ha hs with ⟨_, h⟩ | ⟨_, _, h | ⟨h, _⟩⟩ <;> omega
theorem two_ge {W p mu : Nat → Int} {q C : Int} {j : Int} {a : List Nat} (hqC : q ≤ C) (hs : C < gl p mu a j + q) (hW : ∀ x, W x = if C < p x + q then 2 else 1) : 2 ≤ gl W mu a j := by
  have hW0 : ∀ x, 1 ≤ W x := fun x => by rw [hW]; split <;> omega
  have key : ∀ (a : List Nat), (gl p mu a j = 0 ∧ gl W mu a j = 0) ∨ (gl W mu a j = 1 ∧ gl p mu a j + q ≤ C) ∨ 2 ≤ gl W mu a j := by
    intro a
    induction a with
    | nil => exact .inl ⟨rfl, rfl⟩
    | cons x a ih =>
      have e1 : gl p mu (x :: a) j = (if mu x = j then p x else 0) + gl p mu a j := rfl
      have e2 : gl W mu (x :: a) j = (if mu x = j then W x else 0) + gl W mu a j := rfl
      rw [e1, e2]
      by_cases e : mu x = j
      · rw [if_pos e, if_pos e]
        have hWx := hW x
        have hx1 := hW0 x
        rcases ih with ⟨i1, i2⟩ | ⟨i1, i2⟩ | i1
        · by_cases hb : C < p x + q
          · rw [if_pos hb] at hWx; right; right; omega
          · rw [if_neg hb] at hWx; right; left; omega
        · right; right; omega
        · right; right; omega
      · rw [if_neg e, if_neg e]
        simp only [Int.zero_add]
        exact ih
  rcases key a with ⟨h1, h2⟩ | ⟨h1, h2⟩ | h <;> omega

theorem gl_filter_le (j : Int) (f : Nat → Bool) : ∀ {a : List Nat}, (∀ x ∈ a, 0 ≤ p x) → gl p mu (a.filter f) j ≤ gl p mu a j
  | [], _ => Int.le_refl _
  | x :: a, h => by
    have h1 := gl_filter_le j f (a := a) (fun y hy => h y (List.mem_cons_of_mem _ hy))
    have h2 := h x (List.mem_cons_self ..)
    rw [List.filter_cons]
    have e1 : gl p mu (x :: a) j = (if mu x = j then p x else 0) + gl p mu a j := rfl
    split
    · have e2 : gl p mu (x :: a.filter f) j = (if mu x = j then p x else 0) + gl p mu (a.filter f) j := rfl
      rw [e1, e2]; omega
    · rw [e1]; split <;> omega
theorem least_nat (P : Nat → Prop) : ∀ n, P n → ∃ k, k ≤ n ∧ P k ∧ ∀ i, i < k → ¬ P i := by
  intro n
  induction n using Nat.strongRecOn with
  | _ n ih =>
    intro h
    by_cases e : ∃ i, i < n ∧ P i
    · obtain ⟨i, hi, hp⟩ := e
      obtain ⟨k, h1, h2, h3⟩ := ih i hi hp
      exact ⟨k, by omega, h2, h3⟩
    · exact ⟨n, Nat.le_refl _, h, fun i hi hp => e ⟨i, hi, hp⟩⟩
/-- where all are longer than a third, the longest first is the best -/
theorem Ls.third (h : Ls p M r mu s E) (hr : r.Nodup) (h0 : ∀ x ∈ r, 0 ≤ p x) (hsort : ∀ (i k x y : Nat), i ≤ k → r[i]? = some x → r[k]? = some y → p y ≤ p x)
    {nu : Nat → Int} {r' : List Nat} (hperm : r'.Perm r) (hnu : ∀ x ∈ r', 0 ≤ nu x ∧ nu x < M) {C : Int} (hload : ∀ j : Int, gl p nu r' j ≤ C)
    {k y : Nat} (hk : r[k]? = some y) (h3 : C < 3 * p y) : s y + p y ≤ C := by
  apply Classical.byContradiction
  intro hno
  obtain ⟨i, hik, ⟨x, hx, hxC⟩, hmin⟩ := least_nat (fun i => ∃ x, r[i]? = some x ∧ C < s x + p x) k ⟨y, hk, by omega⟩
  have hxy := hsort i k x y hik hx hk
  have h3x : C < 3 * p x := by omega
  have hx0 := h0 x (List.mem_of_getElem? hx)
  obtain ⟨hi, hxe⟩ := List.getElem?_eq_some_iff.1 hx
  obtain ⟨_, _, _, h4, _⟩ := h.at_ i x hx
  -- the other plan has the job within C
  have hxr' : x ∈ r' := hperm.mem_iff.2 (List.mem_of_getElem? hx)
  have h0' : ∀ y ∈ r', 0 ≤ p y := fun y hy => h0 y (hperm.mem_iff.1 hy)
  have hone : ∀ (a : List Nat) (x : Nat), x ∈ a → (∀ y ∈ a, 0 ≤ p y) → p x ≤ gl p nu a (nu x) := by
    intro a
    induction a with
    | nil => intro x h; simp at h
    | cons z a ih =>
      intro x hxa ha
      have e1 : gl p nu (z :: a) (nu x) = (if nu z = nu x then p z else 0) + gl p nu a (nu x) := rfl
      rw [e1]
      have hz := ha z (List.mem_cons_self ..)
      rcases List.mem_cons.1 hxa with rfl | hxa
      · rw [if_pos rfl]
        have := gl_nonneg (W := p) (mu := nu) (nu x) (a := a) (fun y hy => ha y (List.mem_cons_of_mem _ hy))
        omega
      · have := ih x hxa (fun y hy => ha y (List.mem_cons_of_mem _ hy))
        split <;> omega
  have hqC : p x ≤ C := by
    have h5 := hone r' x hxr' h0'
    have h6 := hload (nu x)
    omega
  let W : Nat → Int := fun z => if C < p z + p x then 2 else 1
  have hW : ∀ z, W z = if C < p z + p x then 2 else 1 := fun _ => rfl
  -- ahead of it: at least two on each machine
  have hP : M * 2 ≤ sm W (r.take i) := by
    rw [← tot_gl (W := W) (mu := mu) (M := M) (a := r.take i) (fun y hy => h.mach y (List.mem_of_mem_take hy))]
    exact tot_ge (fun j hj => two_ge hqC (by have := h4 j (by omega) (by omega); omega) hW)
  -- by the other plan: at most two
  have hQ : sm W (r'.filter (fun z => decide (z ∈ r.take (i + 1)))) ≤ M * 2 := by
    rw [← tot_gl (W := W) (mu := nu) (M := M) (fun y hy => hnu y ((List.mem_filter.1 hy).1))]
    refine tot_le (fun j hj => two_le (p := p) (q := p x) (C := C) (fun z hz => ?_) hx0 h3x ?_ hW)
    · have hz' := of_decide_eq_true (List.mem_filter.1 hz).2
      obtain ⟨l, hl⟩ := List.getElem?_of_mem hz'
      have hli := (List.getElem?_eq_some_iff.1 hl).1
      rw [List.length_take] at hli
      rw [List.getElem?_take] at hl
      split at hl
      · exact hsort l i z x (by omega) hl hx
      · cases hl
    · have := gl_filter_le (p := p) (mu := nu) (j : Int) (fun z => decide (z ∈ r.take (i + 1))) h0'
      have := hload j
      omega
  have hpm : (r'.filter (fun z => decide (z ∈ r.take (i + 1)))).Perm (r.take (i + 1)) := by
    have h5 : (r'.filter (fun z => decide (z ∈ r.take (i + 1)))).Perm (r.filter (fun z => decide (z ∈ r.take (i + 1)))) := hperm.filter _
    refine h5.trans ?_
    refine (List.perm_ext_iff_of_nodup (hr.filter _) (hr.sublist (List.take_sublist _ _))).2 (fun z => ?_)
    rw [List.mem_filter]
    constructor
    · intro hz; exact of_decide_eq_true hz.2
    · intro hz; exact ⟨List.mem_of_mem_take hz, decide_eq_true hz⟩
  rw [sm_perm hpm, List.take_succ_eq_append_getElem hi, sm_append] at hQ
  have : sm W [r[i]] = W r[i] + 0 := rfl
  rw [this] at hQ
  have : 1 ≤ W r[i] := by rw [hW]; split <;> omega
  omega
/-- within 4/3 - 1/(3m) -/
theorem Ls.lpt (h : Ls p M r mu s E) (hr : r.Nodup) (h0 : ∀ x ∈ r, 0 ≤ p x) (hM : 1 ≤ M) (hsort : ∀ (i k x y : Nat), i ≤ k → r[i]? = some x → r[k]? = some y → p y ≤ p x)
    {nu s' : Nat → Int} {r' : List Nat} {C : Int} (hperm : r'.Perm r) (h' : Ls p M r' nu s' C) : 3 * E * M ≤ C * (4 * M - 1) := by
  have h0' : ∀ y ∈ r', 0 ≤ p y := fun y hy => h0 y (hperm.mem_iff.1 hy)
  have hC := h'.nonneg h0'
  have e1 : C * (4 * M - 1) = 3 * (M * C) + ((M : Int) - 1) * C := by
    rw [Int.mul_sub, Int.sub_mul, Int.mul_comm C (4 * M), Int.mul_assoc]; omega
  have hpm := pos_mul hC hM
  rcases h.last with h1 | ⟨i, x, hx, he⟩
  · rw [h1, e1]; omega
  · have h5 := h0 x (List.mem_of_getElem? hx)
    have e2 : 3 * E * M = 3 * (M * E) := by rw [Int.mul_assoc, Int.mul_comm E]
    rw [e1, e2]
    by_cases h3 : C < 3 * p x
    · have h6 := h.third hr h0 hsort hperm h'.mach (h'.load' h0') hx h3
      have h7 : (M : Int) * E ≤ M * C := Int.mul_le_mul_of_nonneg_left (by omega) (by omega)
      omega
    · have h2 := h.start hx
      have h6 := sm_split h0 hx
      have h7 := h'.all h0'
      rw [sm_perm hperm] at h7
      have h8 : ((M : Int) - 1) * (3 * p x) ≤ ((M : Int) - 1) * C := Int.mul_le_mul_of_nonneg_left (by omega) (by omega)
      have h9 : (M : Int) * E = M * s x + (p x + ((M : Int) - 1) * p x) := by
        rw [he, Int.mul_add, (pos_mul h5 hM).1]
      have h10 : ((M : Int) - 1) * (3 * p x) = 3 * (((M : Int) - 1) * p x) := by rw [Int.mul_left_comm]
      omega
end
end Go.Proofs.Ytjndmehhdgiphaa.GrahM
