/- Hu's schedules of forests: the end is the least that levels allow. Plain. (From the template XHuM.) -/
import Init
namespace Go.Proofs.Ytjndmehhdgiphaa.HuM

/-- how many below n are such -/
def cnt : Nat → (Nat → Bool) → Nat
  | 0, _ => 0
  | n + 1, p => cnt n p + if p n then 1 else 0
theorem cnt_le {p q : Nat → Bool} : ∀ {n : Nat}, (∀ i, i < n → p i = true → q i = true) → cnt n p ≤ cnt n q
  | 0, _ => Nat.le_refl _
  | n + 1, h => by
    have h1 := cnt_le (n := n) (fun i hi => h i (by omega))
    have h2 := h n (by omega)
    unfold cnt
    by_cases e : p n = true
    · rw [if_pos e, if_pos (h2 e)]; omega
    · rw [if_neg e]; split <;> omega
theorem cnt_congr {p q : Nat → Bool} : ∀ {n : Nat}, (∀ i, i < n → p i = q i) → cnt n p = cnt n q
  | 0, _ => rfl
  | n + 1, h => by
    have h1 := cnt_congr (n := n) (fun i hi => h i (by omega))
    unfold cnt
    rw [h1, h n (by omega)]
theorem cnt_rem {p : Nat → Bool} {j : Nat} : ∀ {n : Nat}, j < n → p j = true → cnt n p = cnt n (fun x => p x && decide (x ≠ j)) + 1
  | 0, h, _ => by omega
  | n + 1, h, hp => by
    unfold cnt
    by_cases e : j = n
    · subst e
      have : cnt j p = cnt j (fun x => p x && decide (x ≠ j)) := cnt_congr (fun i hi => by simp [show i ≠ j by omega])
      rw [← this]
      simp [hp]
    · rw [cnt_rem (n := n) (by omega) hp]
      have : (p n && decide (n ≠ j)) = p n := by simp [show n ≠ j from fun h => e h.symm]
      show cnt n _ + 1 + (if p n = true then 1 else 0) = cnt n _ + (if (p n && decide (n ≠ j)) = true then 1 else 0) + 1
      rw [this]; omega
theorem cnt_pos {p : Nat → Bool} {j n : Nat} (hj : j < n) (hp : p j = true) : 1 ≤ cnt n p := by rw [cnt_rem hj hp]; omega
theorem cnt_ex {p : Nat → Bool} : ∀ {n : Nat}, 1 ≤ cnt n p → ∃ j, j < n ∧ p j = true
  | 0, h => by simp [cnt] at h
  | n + 1, h => by
    unfold cnt at h
    by_cases e : p n = true
    · exact ⟨n, by omega, e⟩
    · rw [if_neg e] at h
      obtain ⟨j, hj, hp⟩ := cnt_ex (n := n) (by omega)
      exact ⟨j, by omega, hp⟩
theorem cnt_lt {p q : Nat → Bool} {n j : Nat} (h : ∀ i, i < n → p i = true → q i = true) (hj : j < n) (hq : q j = true) (hp : p j = false) : cnt n p < cnt n q := by
  rw [cnt_rem hj hq]
  have : cnt n p ≤ cnt n (fun x => q x && decide (x ≠ j)) := cnt_le (fun i hi hpi => by
    have h1 := h i hi hpi
    have h2 : i ≠ j := fun e => by subst e; rw [hp] at hpi; cases hpi
    simp [h1, h2])
  omega
theorem cnt_or {p q r : Nat → Bool} : ∀ {n : Nat}, (∀ i, i < n → r i = true → p i = true ∨ q i = true) → cnt n r ≤ cnt n p + cnt n q
  | 0, _ => Nat.le_refl _
  | n + 1, h => by
    have h1 := cnt_or (n := n) (fun i hi => h i (by omega))
    have h2 := h n (by omega)
    unfold cnt
    by_cases e : r n = true
    · rw [if_pos e]
      rcases h2 e with h3 | h3 <;> rw [if_pos h3] <;> split <;> omega
    · rw [if_neg e]; split <;> split <;> omega
theorem cnt_and {p q r : Nat → Bool} : ∀ {n : Nat}, (∀ i, i < n → p i = true → r i = true) → (∀ i, i < n → q i = true → r i = true) → (∀ i, i < n → p i = true → q i = true → False) → cnt n p + cnt n q ≤ cnt n r
  | 0, _, _, _ => Nat.le_refl _
  | n + 1, h, h', h'' => by
    have h1 := cnt_and (n := n) (fun i hi => h i (by omega)) (fun i hi => h' i (by omega)) (fun i hi => h'' i (by omega))
    have h2 := h n (by omega)
    have h3 := h' n (by omega)
    have h4 := h'' n (by omega)
    unfold cnt
    by_cases e : p n = true
    · rw [if_pos e, if_pos (h2 e), if_neg (fun e' => h4 e e')]; omega
    · rw [if_neg e]
      by_cases e' : q n = true
      · rw [if_pos e', if_pos (h3 e')]; omega
      · rw [if_neg e']; split <;> omega
theorem cnt_inj (g : Nat → Nat) {n : Nat} : ∀ (k : Nat) (p q : Nat → Bool), cnt n p = k → (∀ j, j < n → p j = true → ∃ i, i < n ∧ q i = true ∧ g i = j) → cnt n p ≤ cnt n q
  | 0, p, q, hk, _ => by omega
  | k + 1, p, q, hk, h => by
    obtain ⟨j, hj, hp⟩ := cnt_ex (n := n) (p := p) (by omega)
    obtain ⟨i, hi, hq, hg⟩ := h j hj hp
    rw [cnt_rem hj hp] at hk ⊢
    rw [cnt_rem hi hq]
    have := cnt_inj (n := n) g k (fun x => p x && decide (x ≠ j)) (fun x => q x && decide (x ≠ i)) (by omega) (fun j' hj' hp' => by
      simp at hp'
      obtain ⟨i', hi', hq', hg'⟩ := h j' hj' hp'.1
      refine ⟨i', hi', ?_, hg'⟩
      have : i' ≠ i := fun e => by subst e; exact hp'.2 (by rw [← hg', hg])
      simp [hq', this])
    omega
theorem cnt_total {p : Nat → Bool} : ∀ {n : Nat}, cnt n p ≤ n
  | 0 => Nat.le_refl _
  | n + 1 => by have := cnt_total (p := p) (n := n); unfold cnt; split <;> omega

/-- the greatest level of such -/
def top (lv : Nat → Nat) : Nat → (Nat → Bool) → Nat
  | 0, _ => 0
  | n + 1, p => max (top lv n p) (if p n then lv n else 0)
theorem top_ge {lv : Nat → Nat} {p : Nat → Bool} {j : Nat} : ∀ {n : Nat}, j < n → p j = true → lv j ≤ top lv n p
  | 0, h, _ => by omega
  | n + 1, h, hp => by
    unfold top
    by_cases e : j = n
    · subst e; rw [if_pos hp]; omega
    · have := top_ge (lv := lv) (n := n) (by omega) hp; omega
theorem top_ex {lv : Nat → Nat} {p : Nat → Bool} : ∀ {n : Nat}, 1 ≤ top lv n p → ∃ j, j < n ∧ p j = true ∧ lv j = top lv n p
  | 0, h => by simp [top] at h
  | n + 1, h => by
    unfold top at h ⊢
    by_cases e : p n = true ∧ top lv n p ≤ lv n
    · exact ⟨n, by omega, e.1, by rw [if_pos e.1]; omega⟩
    · by_cases e2 : p n = true
      · rw [if_pos e2] at h ⊢
        have : ¬ top lv n p ≤ lv n := fun h => e ⟨e2, h⟩
        obtain ⟨j, hj, hp, he⟩ := top_ex (lv := lv) (p := p) (n := n) (by omega)
        exact ⟨j, by omega, hp, by omega⟩
      · rw [if_neg e2] at h ⊢
        obtain ⟨j, hj, hp, he⟩ := top_ex (lv := lv) (p := p) (n := n) (by omega)
        exact ⟨j, by omega, hp, by omega⟩

/-- levels in a forest -/
structure LevOk (n : Nat) (nx : Nat → Int) (lv : Nat → Nat) : Prop where
  root : ∀ i, i < n → nx i < 0 → lv i = 1
  step : ∀ i, i < n → 0 ≤ nx i → ∃ j : Nat, nx i = j ∧ j < n ∧ lv i = lv j + 1
theorem LevOk.pos {n : Nat} {nx : Nat → Int} {lv : Nat → Nat} (h : LevOk n nx lv) {i : Nat} (hi : i < n) : 1 ≤ lv i := by
  by_cases e : nx i < 0
  · rw [h.root i hi e]; exact Nat.le_refl _
  · obtain ⟨j, _, _, h3⟩ := h.step i hi (by omega)
    omega
/-- a plan by levels -/
structure HuOk (n m : Nat) (nx : Nat → Int) (lv : Nat → Nat) (ti : Nat → Nat) (T : Nat) : Prop where
  lev : LevOk n nx lv
  mpos : 1 ≤ m
  lt : ∀ i, i < n → ti i < T
  some : ∀ t, t < T → ∃ i, i < n ∧ ti i = t
  prec : ∀ i j, i < n → j < n → nx i = (j : Int) → ti i < ti j
  few : ∀ t, cnt n (fun x => decide (ti x = t)) ≤ m
  greedy : ∀ t j, t < T → j < n → t < ti j → (∀ p, p < n → nx p = (j : Int) → ti p < t) → cnt n (fun x => decide (ti x = t)) = m ∧ ∀ i, i < n → ti i = t → lv j ≤ lv i
section
variable {n m : Nat} {nx : Nat → Int} {lv ti : Nat → Nat} {T : Nat}
def many (n : Nat) (lv : Nat → Nat) (k : Nat) : Nat := cnt n (fun x => decide (k < lv x))
def bnd (n m : Nat) (lv : Nat → Nat) (k : Nat) : Nat := (many n lv k + m - 1) / m + k * min (many n lv k) 1
theorem chain (hl : LevOk n nx lv) (hp : ∀ i j, i < n → j < n → nx i = (j : Int) → ti i < ti j) (ht : ∀ i, i < n → ti i < T) : ∀ (k i : Nat), i < n → k < lv i → ti i + k < T
  | 0, i, hi, _ => by have := ht i hi; omega
  | k + 1, i, hi, hk => by
    by_cases e : nx i < 0
    · rw [hl.root i hi e] at hk; omega
    · obtain ⟨j, h1, h2, h3⟩ := hl.step i hi (by omega)
      have := chain hl hp ht k j h2 (by omega)
      have := hp i j hi h2 h1
      omega
theorem slots_le {p : Nat → Bool} (hf : ∀ t, cnt n (fun x => decide (ti x = t)) ≤ m) : ∀ S : Nat, (∀ i, i < n → p i = true → ti i < S) → cnt n p ≤ m * S := by
  intro S
  induction S generalizing p with
  | zero =>
    intro h
    have : ¬ 1 ≤ cnt n p := fun h1 => by
      obtain ⟨j, hj, hp⟩ := cnt_ex h1
      have := h j hj hp
      omega
    omega
  | succ S ih =>
    intro h
    have h1 := ih (p := fun x => p x && decide (ti x < S)) (fun i _ hi => by simp at hi; exact hi.2)
    have h2 : cnt n p ≤ cnt n (fun x => p x && decide (ti x < S)) + cnt n (fun x => decide (ti x = S)) := cnt_or (fun i hi hp => by
      have := h i hi hp
      by_cases e : ti i = S
      · right; simp [e]
      · left; simp [hp]; omega)
    have h3 := hf S
    rw [Nat.mul_succ]
    omega
theorem slots_ge {p : Nat → Bool} : ∀ S : Nat, (∀ s, s < S → m ≤ cnt n (fun x => decide (ti x = s) && p x)) → m * S ≤ cnt n (fun x => decide (ti x < S) && p x)
  | 0, _ => by simp
  | S + 1, h => by
    have h1 := slots_ge S (fun s hs => h s (by omega))
    have h2 := h S (by omega)
    have h3 : cnt n (fun x => decide (ti x < S) && p x) + cnt n (fun x => decide (ti x = S) && p x) ≤ cnt n (fun x => decide (ti x < S + 1) && p x) := cnt_and
      (fun i _ hi => by simp at hi ⊢; exact ⟨by omega, hi.2⟩) (fun i _ hi => by simp at hi ⊢; exact ⟨by omega, hi.2⟩) (fun i _ hi hi' => by simp at hi hi'; omega)
    rw [Nat.mul_succ]
    omega
theorem bnd_le (hl : LevOk n nx lv) (hm : 1 ≤ m) (hp : ∀ i j, i < n → j < n → nx i = (j : Int) → ti i < ti j) (ht : ∀ i, i < n → ti i < T) (hf : ∀ t, cnt n (fun x => decide (ti x = t)) ≤ m) (k : Nat) : bnd n m lv k ≤ T := by
  unfold bnd
  by_cases h0 : many n lv k = 0
  · rw [h0]
    have : (0 + m - 1) / m = 0 := Nat.div_eq_of_lt (by omega)
    rw [this]; simp
  · have h1 : 1 ≤ many n lv k := by omega
    obtain ⟨j, hj, hjp⟩ := cnt_ex h1
    have hc := chain hl hp ht k
    have h2 : many n lv k ≤ m * (T - k) := slots_le hf (T - k) (fun i hi hip => by
      simp at hip
      have := hc i hi hip
      omega)
    simp at hjp
    have h3 := hc j hj hjp
    have h4 : (many n lv k + m - 1) / m ≤ T - k := by
      have h5 : many n lv k + m - 1 < (T - k + 1) * m := by
        rw [Nat.add_mul, Nat.mul_comm (T - k) m]; omega
      have := (Nat.div_lt_iff_lt_mul (by omega)).2 h5
      omega
    rw [show min (many n lv k) 1 = 1 by omega]
    omega
theorem bnd_ge {k t : Nat} (hm : 1 ≤ m) (h : m * t + 1 ≤ many n lv k) : t + 1 + k ≤ bnd n m lv k := by
  unfold bnd
  have h1 : t + 1 ≤ (many n lv k + m - 1) / m := by
    rw [Nat.le_div_iff_mul_le (by omega), Nat.add_mul, Nat.mul_comm t m]; omega
  have h2 : min (many n lv k) 1 = 1 := by omega
  rw [h2]
  omega
/-- ready at a time, not below a level -/
def rdy (n : Nat) (nx : Nat → Int) (lv ti : Nat → Nat) (H s : Nat) : Nat → Bool := fun x => decide (s ≤ ti x ∧ H ≤ lv x ∧ ∀ p, p < n → nx p = (x : Int) → ti p < s)
theorem thin (h : HuOk n m nx lv ti T) {H s : Nat} (hs : s < T) (hc : cnt n (fun x => decide (ti x = s) && decide (H ≤ lv x)) < m) :
    cnt n (rdy n nx lv ti H s) < m ∧ cnt n (rdy n nx lv ti H (s + 1)) < m := by
  have hx : ∀ x, x < n → rdy n nx lv ti H s x = true → ti x = s := fun x hx hr => by
    unfold rdy at hr
    simp only [decide_eq_true_eq] at hr
    obtain ⟨r1, r2, r3⟩ := hr
    apply Classical.byContradiction
    intro hne
    obtain ⟨g1, g2⟩ := h.greedy s x hs hx (by omega) r3
    have : cnt n (fun x => decide (ti x = s)) ≤ cnt n (fun x => decide (ti x = s) && decide (H ≤ lv x)) := cnt_le (fun i hi hip => by
      simp at hip ⊢
      have := g2 i hi hip
      exact ⟨hip, by omega⟩)
    omega
  constructor
  · have : cnt n (rdy n nx lv ti H s) ≤ cnt n (fun x => decide (ti x = s) && decide (H ≤ lv x)) := cnt_le (fun i hi hr => by
      have h1 := hx i hi hr
      unfold rdy at hr
      simp only [decide_eq_true_eq] at hr
      simp [h1, hr.2.1])
    omega
  · have : cnt n (rdy n nx lv ti H (s + 1)) ≤ cnt n (fun x => decide (ti x = s) && decide (H ≤ lv x)) := cnt_inj (fun i => (nx i).toNat) _ _ _ rfl (fun j hj hr => by
      have hnr : ¬ rdy n nx lv ti H s j = true := fun hr' => by
        have := hx j hj hr'
        unfold rdy at hr
        simp only [decide_eq_true_eq] at hr
        omega
      unfold rdy at hr hnr
      simp only [decide_eq_true_eq] at hr hnr
      obtain ⟨r1, r2, r3⟩ := hr
      apply Classical.byContradiction
      intro hno
      apply hnr
      refine ⟨by omega, r2, fun p hp he => ?_⟩
      have := r3 p hp he
      by_cases e : ti p = s
      · exfalso
        apply hno
        refine ⟨p, hp, ?_, by show (nx p).toNat = j; rw [he]; simp⟩
        obtain ⟨j', q1, q2, q3⟩ := h.lev.step p hp (by omega)
        have : j' = j := by omega
        subst this
        simp [e]
        omega
      · omega)
    omega
theorem thins (h : HuOk n m nx lv ti T) {H s : Nat} (hc : cnt n (fun x => decide (ti x = s) && decide (H ≤ lv x)) < m) : ∀ d, s + d < T → cnt n (rdy n nx lv ti H (s + d)) < m
  | 0, hd => (thin h hd hc).1
  | d + 1, hd => by
    have h1 : cnt n (fun x => decide (ti x = s + d) && decide (H ≤ lv x)) < m := by
      cases d with
      | zero => exact hc
      | succ d =>
        have h2 := thins h hc (d + 1) (by omega)
        have h3 : cnt n (fun x => decide (ti x = s + (d + 1)) && decide (H ≤ lv x)) ≤ cnt n (rdy n nx lv ti H (s + (d + 1))) := cnt_le (fun i hi hp => by
          simp at hp
          unfold rdy
          simp only [decide_eq_true_eq]
          refine ⟨by omega, hp.2, fun p hp' he => ?_⟩
          have := h.prec p i hp' hi he
          omega)
        omega
    exact (thin h (by omega) h1).2
theorem hu_down (h : HuOk n m nx lv ti T) : ∀ d, d ≤ T → (∃ k, k ≤ n ∧ T ≤ bnd n m lv k) ∨ top lv n (fun x => decide (T - d ≤ ti x)) = d
  | 0, _ => by
    right
    have : ¬ 1 ≤ top lv n (fun x => decide (T - 0 ≤ ti x)) := fun h1 => by
      obtain ⟨j, hj, hp, _⟩ := top_ex h1
      have := h.lt j hj
      simp at hp
      omega
    omega
  | d + 1, hd => by
    rcases hu_down h d (by omega) with h0 | h0
    · exact .inl h0
    have ht : T - d = T - (d + 1) + 1 := by omega
    rw [ht] at h0
    generalize T - (d + 1) = t at *
    have htT : t < T := by omega
    obtain ⟨i0, hi0, he0⟩ := h.some t htT
    have hpos : 1 ≤ top lv n (fun x => decide (t ≤ ti x)) := by
      have := top_ge (lv := lv) (p := fun x => decide (t ≤ ti x)) hi0 (by simp; omega)
      have := h.lev.pos hi0
      omega
    obtain ⟨j, hj, hjp, hjt⟩ := top_ex hpos
    have hle : ∀ x, x < n → t ≤ ti x → lv x ≤ top lv n (fun x => decide (t ≤ ti x)) := fun x hx h1 => top_ge hx (by simp; exact h1)
    have hle' : ∀ x, x < n → t + 1 ≤ ti x → lv x ≤ top lv n (fun x => decide (t + 1 ≤ ti x)) := fun x hx h1 => top_ge hx (by simp; exact h1)
    have hup : top lv n (fun x => decide (t + 1 ≤ ti x)) ≤ top lv n (fun x => decide (t ≤ ti x)) := by
      by_cases e : 1 ≤ top lv n (fun x => decide (t + 1 ≤ ti x))
      · obtain ⟨x, hx, hxp, hxt⟩ := top_ex e
        simp at hxp
        have := hle x hx (by omega)
        omega
      · omega
    have hdn : top lv n (fun x => decide (t ≤ ti x)) ≤ top lv n (fun x => decide (t + 1 ≤ ti x)) + 1 := by
      simp at hjp
      by_cases e : nx j < 0
      · have := h.lev.root j hj e; omega
      · obtain ⟨j', q1, q2, q3⟩ := h.lev.step j hj (by omega)
        have := h.prec j j' hj q2 q1
        have := hle' j' q2 (by omega)
        omega
    by_cases e : top lv n (fun x => decide (t + 1 ≤ ti x)) = top lv n (fun x => decide (t ≤ ti x))
    · left
      rw [h0] at e
      have hd1 : 1 ≤ d := by omega
      rw [← h0] at hd1
      obtain ⟨y, hy, hyp, hyt⟩ := top_ex hd1
      rw [h0] at hyt hd1
      simp at hyp
      rw [← e] at hle
      have hready : ∀ p, p < n → nx p = (y : Int) → ti p < t := fun p hp he => by
        apply Classical.byContradiction
        intro hno
        have h1 := hle p hp (by omega)
        obtain ⟨j', q1, q2, q3⟩ := h.lev.step p hp (by omega)
        have : j' = y := by omega
        subst this
        omega
      obtain ⟨g1, g2⟩ := h.greedy t y htT hy (by omega) hready
      have hR : m + 1 ≤ cnt n (rdy n nx lv ti d t) := by
        have h1 : cnt n (fun x => decide (ti x = t)) < cnt n (rdy n nx lv ti d t) := cnt_lt (j := y) (fun i hi hip => by
          simp at hip
          unfold rdy
          simp only [decide_eq_true_eq]
          refine ⟨by omega, by have := g2 i hi hip; omega, fun p hp he => ?_⟩
          have := h.prec p i hp hi he
          omega) hy (by unfold rdy; simp only [decide_eq_true_eq]; exact ⟨by omega, by omega, hready⟩) (by simp; omega)
        omega
      have hall : ∀ s, s < t + 1 → m ≤ cnt n (fun x => decide (ti x = s) && decide (d ≤ lv x)) := fun s hs => by
        apply Classical.byContradiction
        intro hno
        have := thins h (H := d) (s := s) (by omega) (t - s) (by omega)
        rw [show s + (t - s) = t by omega] at this
        omega
      have h2 := slots_ge (t + 1) hall
      have h3 : cnt n (fun x => decide (ti x < t + 1) && decide (d ≤ lv x)) < many n lv (d - 1) := cnt_lt (j := y) (fun i hi hip => by
        simp at hip ⊢
        omega) hy (by simp; omega) (by simp; omega)
      have h4 := bnd_ge (n := n) (lv := lv) (k := d - 1) (t := t + 1) h.mpos (by omega)
      refine ⟨d - 1, ?_, by omega⟩
      apply Classical.byContradiction
      intro hno
      have hlv : ∀ d', ∀ x, x < n → d' ≤ lv x → d' ≤ n := by
        intro d' x hx hdx
        have hch : ∀ k i, i < n → k < lv i → ∃ l, l < n ∧ lv l = lv i - k := by
          intro k
          induction k with
          | zero => intro i hi _; exact ⟨i, hi, rfl⟩
          | succ k ih =>
            intro i hi hk
            obtain ⟨l, hl, he⟩ := ih i hi (by omega)
            by_cases e : nx l < 0
            · have := h.lev.root l hl e; omega
            · obtain ⟨j', q1, q2, q3⟩ := h.lev.step l hl (by omega)
              exact ⟨j', q2, by omega⟩
        -- a chain of distinct levels
        have hcnt : ∀ k, k ≤ lv x → k ≤ cnt n (fun y => decide (lv y ≤ k)) := by
          intro k
          induction k with
          | zero => intro _; omega
          | succ k ih =>
            intro hk
            have h1 := ih (by omega)
            obtain ⟨l, hl, he⟩ := hch (lv x - (k + 1)) x hx (by omega)
            have : cnt n (fun y => decide (lv y ≤ k)) < cnt n (fun y => decide (lv y ≤ k + 1)) := cnt_lt (j := l) (fun i _ hi => by simp at hi ⊢; omega) hl (by simp; omega) (by simp; omega)
            omega
        have h1 := hcnt d' hdx
        have h2 := cnt_total (p := fun y => decide (lv y ≤ d')) (n := n)
        omega
      have := hlv d y hy (by omega)
      omega
    · right
      omega
theorem hu (h : HuOk n m nx lv ti T) : (∀ k, bnd n m lv k ≤ T) ∧ ∃ k, k ≤ n ∧ bnd n m lv k = T := by
  have hb := bnd_le h.lev h.mpos h.prec h.lt h.few
  refine ⟨hb, ?_⟩
  rcases hu_down h T (Nat.le_refl _) with ⟨k, hk, h1⟩ | h1
  · exact ⟨k, hk, Nat.le_antisymm (hb k) h1⟩
  · by_cases hT : T = 0
    · exact ⟨0, Nat.zero_le _, by have := hb 0; omega⟩
    · obtain ⟨x, hx, hxp, hxt⟩ := top_ex (lv := lv) (n := n) (p := fun x => decide (T - T ≤ ti x)) (by omega)
      rw [h1] at hxt
      have h2 : 1 ≤ many n lv (T - 1) := cnt_pos hx (by simp; omega)
      have h3 := bnd_ge (k := T - 1) (t := 0) h.mpos (by omega)
      have h4 := hb (T - 1)
      refine ⟨T - 1, ?_, by omega⟩
      -- T is at most n: each time has one
      have hTn : ∀ S, S ≤ T → S ≤ cnt n (fun x => decide (ti x < S)) := by
        intro S
        induction S with
        | zero => intro _; omega
        | succ S ih =>
          intro hS
          have h5 := ih (by omega)
          obtain ⟨i, hi, he⟩ := h.some S (by omega)
          have : cnt n (fun x => decide (ti x < S)) < cnt n (fun x => decide (ti x < S + 1)) := cnt_lt (j := i) (fun y _ hy => by simp at hy ⊢; omega) hi (by simp; omega) (by simp; omega)
          omega
      have h5 := hTn T (Nat.le_refl _)
      have h6 := cnt_total (p := fun x => decide (ti x < T)) (n := n)
      omega
end
end Go.Proofs.Ytjndmehhdgiphaa.HuM
