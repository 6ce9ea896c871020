/- One server: what Run does, step by step, whatever the rule; the times of who comes first is served first. Plain. -/
import Init
namespace Go.Proofs.Ytekjddcckkelnaa.PathM

structure St where
  now : Int
  next : Nat
  on : Option Nat
  left : Nat → Int
  wait : List Nat
  out : List (Nat × Int × Int)

variable (At Sz : Nat → Int) (n : Nat)
def F : Nat → Int
  | 0 => 0
  | k + 1 => max (F k) (At k) + Sz k
def S (k : Nat) : Int := max (F At Sz k) (At k)
def pos (x : Int) : Int := max 0 x
/-- served by time t, of the first k -/
def G : Nat → Int → Int
  | 0, _ => 0
  | k + 1, t => G k t + pos (min t (F At Sz (k + 1)) - S At Sz k)
def lsum (left : Nat → Int) (wait : List Nat) : Int := (wait.map left).sum
def served (out : List (Nat × Int × Int)) (t : Int) : Int := (out.map fun p => pos (min t p.2.2 - p.2.1)).sum
/-- a piece more; or the last one longer -/
def push (out : List (Nat × Int × Int)) (on : Nat) (a b : Int) : List (Nat × Int × Int) :=
  match out.getLast? with
  | some p => if p.1 = on ∧ p.2.2 = a then out.dropLast ++ [(p.1, p.2.1, b)] else out ++ [(on, a, b)]
  | none => out ++ [(on, a, b)]
def start (Sz : Nat → Int) : St := ⟨0, 0, none, Sz, [], []⟩
def upd (left : Nat → Int) (on : Nat) (x : Int) (i : Nat) : Int := if i = on then x else left i
/-- what stands behind one round -/
def after (s : St) (k on : Nat) (a b : Int) : St :=
  { now := b, next := s.next + k, left := upd s.left on (s.left on - (b - a)),
    on := if s.left on - (b - a) = 0 then none else some on,
    wait := if s.left on - (b - a) = 0 then (s.wait ++ List.range' s.next k).filter (fun i => !(i == on)) else s.wait ++ List.range' s.next k,
    out := push s.out on a b }
structure Step (pre : Bool) (best : (Nat → Int) → List Nat → Nat → Prop) (s : St) (k on : Nat) (a b : Int) : Prop where
  more : s.next < n ∨ s.wait ≠ []
  ha : a = if s.wait = [] then max s.now (At s.next) else s.now
  kn : s.next + k ≤ n
  came : ∀ i, s.next ≤ i → i < s.next + k → At i ≤ a
  stop : s.next + k < n → a < At (s.next + k)
  hon : on ∈ s.wait ++ List.range' s.next k
  choice : s.on = none ∨ pre = true → best s.left (s.wait ++ List.range' s.next k) on
  stays : ∀ i, s.on = some i → pre = false → on = i
  hb : b = if pre = true ∧ s.next + k < n then min (a + s.left on) (At (s.next + k)) else a + s.left on
inductive Reach (pre : Bool) (best : (Nat → Int) → List Nat → Nat → Prop) : St → Prop
  | start : Reach pre best (start Sz)
  | step {s : St} {k on : Nat} {a b : Int} (h : Reach pre best s) (hs : Step At n pre best s k on a b) : Reach pre best (after s k on a b)

/-! ### the times -/
section
variable {At Sz : Nat → Int} {n : Nat}
theorem S_ge (k : Nat) : F At Sz k ≤ S At Sz k ∧ At k ≤ S At Sz k := by unfold S; omega
theorem F_succ (k : Nat) : F At Sz (k + 1) = S At Sz k + Sz k := rfl
theorem G_succ (k : Nat) (t : Int) : G At Sz (k + 1) t = G At Sz k t + pos (min t (F At Sz (k + 1)) - S At Sz k) := rfl
theorem F_mono (hS : ∀ i, i < n → 1 ≤ Sz i) {j k : Nat} (hjk : j ≤ k) (hk : k ≤ n) : F At Sz j ≤ F At Sz k := by
  induction k with
  | zero => obtain rfl : j = 0 := by omega
            exact Int.le_refl _
  | succ k ih =>
    by_cases e : j = k + 1
    · subst e; exact Int.le_refl _
    · have h1 := ih (by omega) (by omega)
      have h2 := S_ge (At := At) (Sz := Sz) k
      have h3 := hS k (by omega)
      rw [F_succ]; omega
/-- nothing more is served of the first k behind their end -/
theorem G_flat {k : Nat} (hS : ∀ i, i < n → 1 ≤ Sz i) (hk : k ≤ n) {t u : Int} (ht : F At Sz k ≤ t) (hu : F At Sz k ≤ u) : G At Sz k t = G At Sz k u := by
  induction k with
  | zero => rfl
  | succ k ih =>
    have h0 := F_mono (At := At) hS (show k ≤ k + 1 by omega) hk
    rw [G_succ, G_succ, ih (by omega) (by omega) (by omega)]
    congr 2
    omega
/-- those who come later add nothing till then -/
theorem G_later {j k : Nat} (hjk : j ≤ k) {t : Int} (ht : ∀ i, j ≤ i → i < k → t ≤ S At Sz i) : G At Sz k t = G At Sz j t := by
  induction k with
  | zero => obtain rfl : j = 0 := by omega
            rfl
  | succ k ih =>
    by_cases e : j = k + 1
    · subst e; rfl
    · rw [G_succ, ih (by omega) (fun i h1 h2 => ht i h1 (by omega))]
      have := ht k (by omega) (by omega)
      unfold pos; omega
theorem G_total {k : Nat} (hS : ∀ i, i < n → 1 ≤ Sz i) (hk : k ≤ n) : G At Sz k (F At Sz k) = ((List.range k).map Sz).sum := by
  induction k with
  | zero => rfl
  | succ k ih =>
    have h0 := F_mono (At := At) hS (show k ≤ k + 1 by omega) hk
    have h1 := G_flat (At := At) hS (show k ≤ n by omega) h0 (Int.le_refl _)
    rw [G_succ, h1, ih (by omega), List.range_succ, List.map_append, List.sum_append]
    have h2 := hS k (by omega)
    have h3 := F_succ (At := At) (Sz := Sz) k
    simp only [List.map_cons, List.map_nil, List.sum_cons, List.sum_nil]
    unfold pos; omega
/-- at work without a pause from a on, till the end of the first k -/
def Busy (At Sz : Nat → Int) (k : Nat) (a : Int) : Prop := a ≤ F At Sz k ∧ ∀ t, a ≤ t → t ≤ F At Sz k → G At Sz k t = G At Sz k a + (t - a)
theorem busy_at {k : Nat} : Busy At Sz k (F At Sz k) := ⟨Int.le_refl _, fun t h1 h2 => by
  obtain rfl : t = F At Sz k := by omega
  omega⟩
theorem Busy.later {k : Nat} {a b : Int} (h : Busy At Sz k a) (hab : a ≤ b) (hb : b ≤ F At Sz k) : Busy At Sz k b :=
  ⟨hb, fun t h1 h2 => by rw [h.2 t (by omega) h2, h.2 b hab hb]; omega⟩
/-- one comes while there is work -/
theorem Busy.come {k : Nat} {a : Int} (hS : ∀ i, i < n → 1 ≤ Sz i) (hk : k < n) (h : Busy At Sz k a) (ha : At k ≤ a) : F At Sz (k + 1) = F At Sz k + Sz k ∧ Busy At Sz (k + 1) a := by
  have h0 := h.1
  have hs : S At Sz k = F At Sz k := by unfold S; omega
  have hF : F At Sz (k + 1) = F At Sz k + Sz k := by rw [F_succ, hs]
  have h1 := hS k hk
  refine ⟨hF, by omega, fun t h2 h3 => ?_⟩
  rw [G_succ, G_succ, hs, hF]
  have ea : pos (min a (F At Sz k + Sz k) - F At Sz k) = 0 := by unfold pos; omega
  rw [ea]
  by_cases ht : t ≤ F At Sz k
  · rw [h.2 t h2 ht]
    have : pos (min t (F At Sz k + Sz k) - F At Sz k) = 0 := by unfold pos; omega
    omega
  · rw [G_flat (At := At) hS (show k ≤ n by omega) (show F At Sz k ≤ t by omega) (Int.le_refl _), h.2 _ h0 (Int.le_refl _)]
    have : pos (min t (F At Sz k + Sz k) - F At Sz k) = t - F At Sz k := by unfold pos; omega
    omega
/-- one comes when all is done -/
theorem busy_jump {k : Nat} {a : Int} (hS : ∀ i, i < n → 1 ≤ Sz i) (hk : k < n) (ha : a = max (F At Sz k) (At k)) : F At Sz (k + 1) = a + Sz k ∧ Busy At Sz (k + 1) a := by
  have hs : S At Sz k = a := ha.symm
  have hF : F At Sz (k + 1) = a + Sz k := by rw [F_succ, hs]
  have h1 := hS k hk
  refine ⟨hF, by omega, fun t h2 h3 => ?_⟩
  rw [G_succ, G_succ, hs, hF, G_flat (At := At) hS (show k ≤ n by omega) (show F At Sz k ≤ t by omega) (show F At Sz k ≤ a by omega)]
  unfold pos; omega

theorem lsum_append (left : Nat → Int) (a b : List Nat) : lsum left (a ++ b) = lsum left a + lsum left b := by simp [lsum, List.sum_append]
theorem lsum_nonneg {left : Nat → Int} {w : List Nat} (h : ∀ i ∈ w, 0 ≤ left i) : 0 ≤ lsum left w := by
  induction w with
  | nil => exact Int.le_refl _
  | cons x w ih =>
    have h1 := ih (fun i hi => h i (List.mem_cons_of_mem _ hi))
    have h2 := h x (List.mem_cons_self ..)
    simp only [lsum, List.map_cons, List.sum_cons] at h1 ⊢; omega
theorem lsum_congr {left left' : Nat → Int} {w : List Nat} (h : ∀ i ∈ w, left i = left' i) : lsum left w = lsum left' w := by
  unfold lsum; rw [List.map_congr_left h]
theorem lsum_upd {left : Nat → Int} {w : List Nat} {on : Nat} {x : Int} (hn : w.Nodup) (hm : on ∈ w) : lsum (upd left on x) w = lsum left w - left on + x := by
  induction w with
  | nil => cases hm
  | cons y w ih =>
    have hn' := List.nodup_cons.1 hn
    simp only [lsum, List.map_cons, List.sum_cons] at ih ⊢
    rcases List.mem_cons.1 hm with rfl | hm
    · have hw : ∀ i ∈ w, upd left on x i = left i := fun i hi => by
        unfold upd; rw [if_neg (fun (e : i = on) => hn'.1 (e ▸ hi))]
      have : (w.map (upd left on x)).sum = (w.map left).sum := by rw [List.map_congr_left hw]
      rw [this]; unfold upd; rw [if_pos rfl]; omega
    · have hy : y ≠ on := fun e => hn'.1 (e ▸ hm)
      rw [ih hn'.2 hm]
      have : upd left on x y = left y := by unfold upd; rw [if_neg hy]
      omega
theorem lsum_filter {left : Nat → Int} {w : List Nat} {on : Nat} (h : left on = 0) : lsum left (w.filter fun i => !(i == on)) = lsum left w := by
  induction w with
  | nil => rfl
  | cons y w ih =>
    by_cases e : y = on
    · subst e; simp only [lsum] at ih ⊢; simp [ih, h]
    · simp only [lsum] at ih ⊢; simp [e, ih]
theorem lsum_mem {left : Nat → Int} {w : List Nat} {on : Nat} (h : ∀ i ∈ w, 0 ≤ left i) (hm : on ∈ w) : left on ≤ lsum left w := by
  induction w with
  | nil => cases hm
  | cons y w ih =>
    have h1 := lsum_nonneg (fun i hi => h i (List.mem_cons_of_mem _ hi))
    have h2 := h y (List.mem_cons_self ..)
    simp only [lsum, List.map_cons, List.sum_cons] at h1 ⊢
    rcases List.mem_cons.1 hm with rfl | hm
    · omega
    · have := ih (fun i hi => h i (List.mem_cons_of_mem _ hi)) hm
      simp only [lsum] at this; omega
/-! ### what was served -/
theorem served_append (o : List (Nat × Int × Int)) (p : Nat × Int × Int) (t : Int) : served (o ++ [p]) t = served o t + pos (min t p.2.2 - p.2.1) := by
  simp [served, List.sum_append]
theorem served_push {o : List (Nat × Int × Int)} {on : Nat} {a b t : Int} (hab : a ≤ b) (hl : ∀ p, o.getLast? = some p → p.2.1 ≤ p.2.2) : served (push o on a b) t = served o t + pos (min t b - a) := by
  unfold push
  cases h : o.getLast? with
  | none => exact served_append _ _ _
  | some p =>
    simp only
    split
    · rename_i e
      have ho : o = o.dropLast ++ [p] := by
        obtain ⟨q, rfl⟩ := List.getLast?_eq_some_iff.1 h
        simp
      have h1 := hl p h
      conv => rhs; rw [ho]
      rw [served_append, served_append]
      simp only
      unfold pos; omega
    · exact served_append _ _ _
/-- pieces one behind the other -/
structure Fine (At : Nat → Int) (n : Nat) (now : Int) (o : List (Nat × Int × Int)) : Prop where
  each : ∀ p ∈ o, p.1 < n ∧ p.2.1 < p.2.2 ∧ At p.1 ≤ p.2.1 ∧ 0 ≤ p.2.1 ∧ p.2.2 ≤ now
  row : o.Pairwise fun p q => p.2.2 ≤ q.2.1
theorem Fine.push {At : Nat → Int} {n : Nat} {now : Int} {o : List (Nat × Int × Int)} (h : Fine At n now o) {on : Nat} {a b : Int} (hon : on < n) (hna : now ≤ a) (hab : a < b) (hAt : At on ≤ a) (h0 : 0 ≤ a) : Fine At n b (push o on a b) := by
  have hgen : Fine At n b (o ++ [(on, a, b)]) := by
    refine ⟨fun p hp => ?_, ?_⟩
    · rcases List.mem_append.1 hp with hp | hp
      · have := h.each p hp
        exact ⟨this.1, this.2.1, this.2.2.1, this.2.2.2.1, by omega⟩
      · simp at hp; subst hp
        exact ⟨hon, hab, hAt, h0, Int.le_refl _⟩
    · rw [List.pairwise_append]
      refine ⟨h.row, by simp, fun p hp q hq => ?_⟩
      simp at hq; subst hq
      have := (h.each p hp).2.2.2.2
      simp only; omega
  unfold PathM.push
  cases hl : o.getLast? with
  | none => exact hgen
  | some p =>
    simp only
    split
    · rename_i e
      obtain ⟨q, rfl⟩ := List.getLast?_eq_some_iff.1 hl
      have hp := h.each p (by simp)
      have hr := h.row
      rw [List.pairwise_append] at hr
      rw [List.dropLast_concat]
      refine ⟨fun x hx => ?_, ?_⟩
      · rcases List.mem_append.1 hx with hx | hx
        · have := h.each x (List.mem_append_left _ hx)
          exact ⟨this.1, this.2.1, this.2.2.1, this.2.2.2.1, by omega⟩
        · simp at hx; subst hx
          exact ⟨hp.1, by simp only; omega, hp.2.2.1, hp.2.2.2.1, Int.le_refl _⟩
      · rw [List.pairwise_append]
        refine ⟨hr.1, by simp, fun x hx y hy => ?_⟩
        simp at hy; subst hy
        exact hr.2.2 x hx p (by simp)
    · exact hgen

/-! ### what holds at each head -/
structure Jobs (At Sz : Nat → Int) (n : Nat) : Prop where
  size : ∀ i, i < n → 1 ≤ Sz i
  row : ∀ i j, i ≤ j → j < n → At i ≤ At j
  zero : ∀ i, i < n → 0 ≤ At i
structure Inv (At Sz : Nat → Int) (n : Nat) (s : St) : Prop where
  next_le : s.next ≤ n
  wait_lt : ∀ i ∈ s.wait, i < s.next
  nodup : s.wait.Nodup
  on_mem : ∀ i, s.on = some i → i ∈ s.wait
  lpos : ∀ i ∈ s.wait, 0 < s.left i
  late : ∀ i, s.next ≤ i → s.left i = Sz i
  done : ∀ i, i < s.next → i ∉ s.wait → s.left i = 0
  came : ∀ i, i < s.next → At i ≤ s.now
  now0 : 0 ≤ s.now
  eF : F At Sz s.next = s.now + lsum s.left s.wait
  busy : Busy At Sz s.next s.now
  srv : ∀ t, served s.out t = G At Sz s.next (min t s.now)
  fine : Fine At n s.now s.out
theorem inv_start : Inv At Sz n (PathM.start Sz) :=
  ⟨Nat.zero_le _, by simp [PathM.start], by simp [PathM.start], by simp [PathM.start], by simp [PathM.start], fun _ _ => rfl, fun i h => by simp [PathM.start] at h, fun i h => by simp [PathM.start] at h, Int.le_refl _, rfl, busy_at, fun _ => rfl, ⟨by simp [PathM.start], by simp [PathM.start]⟩⟩
/-- the jobs that come while there is work, one by one -/
theorem come_all (hJ : Jobs At Sz n) {a : Int} : ∀ (k j : Nat), j + k ≤ n → Busy At Sz j a → (∀ i, j ≤ i → i < j + k → At i ≤ a) → F At Sz (j + k) = F At Sz j + lsum Sz (List.range' j k) ∧ Busy At Sz (j + k) a
  | 0, j, _, hb, _ => ⟨by simp [lsum], hb⟩
  | k + 1, j, hk, hb, hc => by
    obtain ⟨h1, h2⟩ := hb.come hJ.size (show j < n by omega) (hc j (Nat.le_refl _) (by omega))
    obtain ⟨h3, h4⟩ := come_all hJ k (j + 1) (by omega) h2 (fun i hi hi2 => hc i (by omega) (by omega))
    rw [show j + 1 + k = j + (k + 1) by omega] at h3 h4
    refine ⟨?_, h4⟩
    rw [h3, h1, List.range'_succ]
    simp only [lsum, List.map_cons, List.sum_cons]
    omega

/-- what one round does, told apart -/
structure Mid (At Sz : Nat → Int) (n : Nat) (s : St) (k on : Nat) (a b : Int) : Prop where
  now_a : s.now ≤ a
  ab : a < b
  bl : b ≤ a + s.left on
  on_lt : on < s.next + k
  nodup : (s.wait ++ List.range' s.next k).Nodup
  lpos : ∀ i ∈ s.wait ++ List.range' s.next k, 0 < s.left i
  came : ∀ i, i < s.next + k → At i ≤ a
  eF : F At Sz (s.next + k) = a + lsum s.left (s.wait ++ List.range' s.next k)
  busy : Busy At Sz (s.next + k) a
  past : ∀ t, t ≤ a → G At Sz (s.next + k) t = G At Sz s.next (min t s.now)
  k0 : s.wait = [] → 0 < k
theorem Inv.mid (hJ : Jobs At Sz n) {pre : Bool} {best : (Nat → Int) → List Nat → Nat → Prop} {s : St} (h : Inv At Sz n s) {k on : Nat} {a b : Int} (hs : Step At n pre best s k on a b) : Mid At Sz n s k on a b := by
  have hna : s.now ≤ a := by rw [hs.ha]; split <;> omega
  have hcame : ∀ i, i < s.next + k → At i ≤ a := fun i hi => by
    by_cases e : i < s.next
    · have := h.came i e; omega
    · exact hs.came i (by omega) hi
  have hpos : ∀ i ∈ s.wait ++ List.range' s.next k, 0 < s.left i := fun i hi => by
    rcases List.mem_append.1 hi with hi | hi
    · exact h.lpos i hi
    · have := List.mem_range'_1.1 hi
      rw [h.late i this.1]
      have := hJ.size i (by have := hs.kn; omega)
      omega
  have hnd : (s.wait ++ List.range' s.next k).Nodup := by
    rw [List.nodup_append]
    refine ⟨h.nodup, List.nodup_range', fun x hx y hy e => ?_⟩
    have h1 := h.wait_lt x hx
    have h2 := (List.mem_range'_1.1 hy).1
    omega
  have honlt : on < s.next + k := by
    rcases List.mem_append.1 hs.hon with hi | hi
    · have := h.wait_lt on hi; omega
    · exact (List.mem_range'_1.1 hi).2
  have hlate : lsum s.left (List.range' s.next k) = lsum Sz (List.range' s.next k) := lsum_congr (fun i hi => h.late i (List.mem_range'_1.1 hi).1)
  have hkn := hs.kn
  have key : F At Sz (s.next + k) = a + lsum s.left (s.wait ++ List.range' s.next k) ∧ Busy At Sz (s.next + k) a ∧ (s.wait = [] → 0 < k) := by
    rw [lsum_append, hlate]
    by_cases hw : s.wait = []
    · have ha : a = max s.now (At s.next) := by rw [hs.ha, if_pos hw]
      have hnx : s.next < n := by
        rcases hs.more with h1 | h1
        · exact h1
        · exact absurd hw h1
      have hk0 : 0 < k := by
        apply Classical.byContradiction
        intro hk
        obtain rfl : k = 0 := by omega
        have := hs.stop (by omega)
        rw [Nat.add_zero] at this
        omega
      have hF := h.eF
      rw [hw] at hF
      simp only [lsum, List.map_nil, List.sum_nil, Int.add_zero] at hF
      obtain ⟨h1, h2⟩ := busy_jump (a := a) hJ.size hnx (by rw [hF]; exact ha)
      obtain ⟨q, rfl⟩ : ∃ q, k = q + 1 := ⟨k - 1, by omega⟩
      obtain ⟨h3, h4⟩ := come_all hJ q (s.next + 1) (by omega) h2 (fun i hi1 hi2 => hs.came i (by omega) (by omega))
      rw [show s.next + 1 + q = s.next + (q + 1) by omega] at h3 h4
      refine ⟨?_, h4, fun _ => hk0⟩
      rw [h3, h1, hw, List.range'_succ]
      simp only [lsum, List.map_nil, List.sum_nil, List.map_cons, List.sum_cons]
      omega
    · have ha : a = s.now := by rw [hs.ha, if_neg hw]
      obtain ⟨h3, h4⟩ := come_all (a := a) hJ k s.next hkn (by rw [ha]; exact h.busy) (fun i hi1 hi2 => hs.came i hi1 hi2)
      refine ⟨?_, h4, fun e => absurd e hw⟩
      rw [h3, h.eF, ha]; omega
  have hon := hpos on hs.hon
  have hbl : b ≤ a + s.left on := by rw [hs.hb]; split <;> omega
  have hab : a < b := by
    rw [hs.hb]
    split
    · rename_i e
      have := hs.stop e.2
      omega
    · omega
  refine ⟨hna, hab, hbl, honlt, hnd, hpos, hcame, key.1, key.2.1, fun t ht => ?_, key.2.2⟩
  have hFn : s.now ≤ F At Sz s.next := h.busy.1
  by_cases htn : t ≤ s.now
  · rw [show min t s.now = t by omega]
    refine G_later (by omega) (fun i h1 h2 => ?_)
    have h3 := F_mono (At := At) hJ.size h1 (show i ≤ n by omega)
    have h4 := S_ge (At := At) (Sz := Sz) i
    omega
  · -- a jump
    rw [show min t s.now = s.now by omega]
    have hw : s.wait = [] := by
      apply Classical.byContradiction
      intro hw
      have ha : a = s.now := by rw [hs.ha, if_neg hw]
      omega
    have ha : a = max s.now (At s.next) := by rw [hs.ha, if_pos hw]
    have hF := h.eF
    rw [hw] at hF
    simp only [lsum, List.map_nil, List.sum_nil, Int.add_zero] at hF
    have h1 : G At Sz (s.next + k) t = G At Sz s.next t := G_later (by omega) (fun i h1 h2 => by
      have h3 := hJ.row s.next i h1 (by omega)
      have h4 := S_ge (At := At) (Sz := Sz) i
      omega)
    rw [h1]
    exact G_flat (At := At) hJ.size h.next_le (by omega) (by omega)
theorem Inv.step (hJ : Jobs At Sz n) {pre : Bool} {best : (Nat → Int) → List Nat → Nat → Prop} {s : St} (h : Inv At Sz n s) {k on : Nat} {a b : Int} (hs : Step At n pre best s k on a b) : Inv At Sz n (after s k on a b) := by
  have M := h.mid hJ hs
  have h0 := h.now0
  have hpos := M.lpos
  have hon := hpos on hs.hon
  have hls := lsum_mem (fun i hi => Int.le_of_lt (hpos i hi)) hs.hon
  have hsum := lsum_upd (left := s.left) (x := s.left on - (b - a)) M.nodup hs.hon
  have e1 := M.ab
  have e2 := M.bl
  have e3 := M.now_a
  have eF := M.eF
  have honx : upd s.left on (s.left on - (b - a)) on = s.left on - (b - a) := by unfold upd; rw [if_pos rfl]
  have hother : ∀ i, i ≠ on → upd s.left on (s.left on - (b - a)) i = s.left i := fun i hi => by unfold upd; rw [if_neg hi]
  refine ⟨hs.kn, fun i hi => ?_, ?_, fun i hi => ?_, fun i hi => ?_, fun i hi => ?_, fun i hi hni => ?_, fun i hi => ?_, ?_, ?_, ?_, fun t => ?_, ?_⟩
  · have hi' : i ∈ s.wait ++ List.range' s.next k := by
      simp only [after] at hi
      split at hi
      · exact (List.mem_filter.1 hi).1
      · exact hi
    show i < s.next + k
    rcases List.mem_append.1 hi' with h1 | h1
    · have := h.wait_lt i h1; omega
    · exact (List.mem_range'_1.1 h1).2
  · show (if s.left on - (b - a) = 0 then _ else _ : List Nat).Nodup
    split
    · exact M.nodup.filter _
    · exact M.nodup
  · simp only [after] at hi ⊢
    split at hi
    · cases hi
    · rename_i e
      rw [if_neg e]
      simp at hi; subst hi; exact hs.hon
  · simp only [after] at hi ⊢
    split at hi
    · obtain ⟨h1, h2⟩ := List.mem_filter.1 hi
      have : i ≠ on := by simpa using h2
      rw [hother i this]; exact hpos i h1
    · rename_i e
      by_cases ei : i = on
      · subst ei; rw [honx]; omega
      · rw [hother i ei]; exact hpos i hi
  · show upd s.left on (s.left on - (b - a)) i = Sz i
    have hi' : s.next + k ≤ i := hi
    have := M.on_lt
    rw [hother i (by omega), h.late i (by omega)]
  · show upd s.left on (s.left on - (b - a)) i = 0
    have hi' : i < s.next + k := hi
    by_cases ei : i = on
    · subst ei
      rw [honx]
      apply Classical.byContradiction
      intro e
      apply hni
      simp only [after]
      rw [if_neg e]; exact hs.hon
    · rw [hother i ei]
      have hnW : i ∉ s.wait ++ List.range' s.next k := fun hm => by
        apply hni
        simp only [after]
        split
        · exact List.mem_filter.2 ⟨hm, by simpa using ei⟩
        · exact hm
      by_cases hlt : i < s.next
      · exact h.done i hlt (fun hm => hnW (List.mem_append_left _ hm))
      · exact absurd (List.mem_append_right _ (List.mem_range'_1.2 ⟨by omega, hi'⟩)) hnW
  · have := M.came i hi
    show At i ≤ b
    omega
  · show 0 ≤ b
    omega
  · show F At Sz (s.next + k) = b + lsum (upd s.left on (s.left on - (b - a))) (if s.left on - (b - a) = 0 then _ else _)
    split
    · rename_i e
      rw [lsum_filter (by rw [honx, e]), hsum]; omega
    · rw [hsum]; omega
  · exact M.busy.later (b := b) (by omega) (by show b ≤ F At Sz (s.next + k); omega)
  · show PathM.served (PathM.push s.out on a b) t = G At Sz (s.next + k) (min t b)
    rw [served_push (by omega) (fun p hp => by have := (h.fine.each p (List.mem_of_getLast? hp)).2.1; omega), h.srv t]
    by_cases hta : t ≤ a
    · rw [show min t b = t by omega, M.past t hta]
      unfold PathM.pos; omega
    · have h1 := M.busy.2 (min t b) (by omega) (by omega)
      have h2 := M.past a (Int.le_refl _)
      rw [h1, h2, show min t s.now = s.now by omega, show min a s.now = s.now by omega]
      unfold PathM.pos; omega
  · exact h.fine.push (by have := M.on_lt; have := hs.kn; omega) e3 e1 (M.came on M.on_lt) (by omega)
theorem Reach.inv (hJ : Jobs At Sz n) {pre : Bool} {best : (Nat → Int) → List Nat → Nat → Prop} {s : St} (h : Reach At Sz n pre best s) : Inv At Sz n s := by
  induction h with
  | start => exact inv_start
  | step _ hs ih => exact ih.step hJ hs

theorem countP_lt {p q : Nat → Bool} {l : List Nat} (h : ∀ i ∈ l, p i = true → q i = true) {x : Nat} (hx : x ∈ l) (hq : q x = true) (hp : p x = false) : l.countP p < l.countP q := by
  induction l with
  | nil => cases hx
  | cons y l ih =>
    have hm : l.countP p ≤ l.countP q := List.countP_mono_left (fun i hi => h i (List.mem_cons_of_mem _ hi))
    rw [List.countP_cons, List.countP_cons]
    rcases List.mem_cons.1 hx with rfl | hx
    · rw [if_neg (by simp [hp]), if_pos hq]; omega
    · have := ih (fun i hi => h i (List.mem_cons_of_mem _ hi)) hx
      have hy := h y (List.mem_cons_self ..)
      by_cases e : p y = true
      · rw [if_pos e, if_pos (hy e)]; omega
      · rw [if_neg e]; split <;> omega
/-- rounds that may still come -/
def mu (At : Nat → Int) (n : Nat) (s : St) : Nat := (List.range n).countP (fun i => decide (s.left i ≠ 0)) + (List.range n).countP (fun i => decide (s.now < At i))
theorem mu_step (hJ : Jobs At Sz n) {pre : Bool} {best : (Nat → Int) → List Nat → Nat → Prop} {s : St} (h : Inv At Sz n s) {k on : Nat} {a b : Int} (hs : Step At n pre best s k on a b) : mu At n (after s k on a b) < mu At n s := by
  have M := h.mid hJ hs
  have hkn := hs.kn
  have hon := M.lpos on hs.hon
  have e1 := M.ab
  have e2 := M.now_a
  have e3 := M.on_lt
  have hl : ∀ i, decide ((after s k on a b).left i ≠ 0) = true → decide (s.left i ≠ 0) = true := fun i hi => by
    have hi' := of_decide_eq_true hi
    apply decide_eq_true
    intro e0
    apply hi'
    show upd s.left on (s.left on - (b - a)) i = 0
    unfold upd
    split
    · rename_i e; subst e; omega
    · exact e0
  have ht : ∀ i, decide ((after s k on a b).now < At i) = true → decide (s.now < At i) = true := fun i hi => by
    have hi' : b < At i := of_decide_eq_true hi
    exact decide_eq_true (by omega)
  have m1 : (List.range n).countP (fun i => decide ((after s k on a b).left i ≠ 0)) ≤ (List.range n).countP (fun i => decide (s.left i ≠ 0)) := List.countP_mono_left (fun i _ => hl i)
  have m2 : (List.range n).countP (fun i => decide ((after s k on a b).now < At i)) ≤ (List.range n).countP (fun i => decide (s.now < At i)) := List.countP_mono_left (fun i _ => ht i)
  unfold mu
  by_cases hz : s.left on - (b - a) = 0
  · have := countP_lt (l := List.range n) (fun i _ => hl i) (x := on) (List.mem_range.2 (by omega)) (by simp; omega) (by simp [after, upd, hz])
    omega
  · have hb := hs.hb
    split at hb
    · rename_i e
      have hst := hs.stop e.2
      have := countP_lt (l := List.range n) (fun i _ => ht i) (x := s.next + k) (List.mem_range.2 e.2) (by simp; omega) (by simp [after]; omega)
      omega
    · omega
/-- the end: all is served, as it was for who comes first -/
theorem Inv.end (hJ : Jobs At Sz n) {s : St} (h : Inv At Sz n s) (he : ¬ (s.next < n ∨ s.wait ≠ [])) : s.next = n ∧ s.now = PathM.F At Sz n ∧ ∀ t, PathM.served s.out t = G At Sz n t := by
  have h1 : s.next = n := by
    have := h.next_le
    apply Classical.byContradiction
    intro e
    exact he (.inl (by omega))
  have h2 : s.wait = [] := by
    apply Classical.byContradiction
    intro e
    exact he (.inr e)
  have h3 := h.eF
  rw [h2] at h3
  simp only [lsum, List.map_nil, List.sum_nil, Int.add_zero] at h3
  rw [h1] at h3
  refine ⟨h1, h3.symm, fun t => ?_⟩
  rw [h.srv t, h1]
  by_cases ht : t ≤ s.now
  · rw [show min t s.now = t by omega]
  · rw [show min t s.now = s.now by omega]
    exact G_flat (At := At) hJ.size (Nat.le_refl _) (by omega) (by omega)
/-- the sum of the pieces -/
theorem served_all {o : List (Nat × Int × Int)} {t : Int} (h : ∀ p ∈ o, p.2.1 ≤ p.2.2 ∧ p.2.2 ≤ t) : served o t = (o.map fun p => p.2.2 - p.2.1).sum := by
  unfold served
  congr 1
  apply List.map_congr_left
  intro p hp
  have := h p hp
  unfold pos; omega
theorem F_bd (hJ : Jobs At Sz n) (ha : ∀ i, i < n → At i ≤ 1000000000) (hz : ∀ i, i < n → Sz i ≤ 1000000000) : ∀ k, k ≤ n → 0 ≤ PathM.F At Sz k ∧ PathM.F At Sz k ≤ 1000000000 + 1000000000 * (k : Int)
  | 0, _ => by simp [PathM.F]
  | k + 1, hk => by
    have h1 := F_bd hJ ha hz k (by omega)
    have h2 := ha k (by omega)
    have h3 := hz k (by omega)
    have h4 := hJ.size k (by omega)
    have h5 := hJ.zero k (by omega)
    rw [F_succ]
    unfold S
    omega
end
end Go.Proofs.Ytekjddcckkelnaa.PathM
