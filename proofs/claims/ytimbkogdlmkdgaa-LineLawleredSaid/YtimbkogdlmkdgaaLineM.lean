/- One machine: Smith's order costs the least, Jackson's has the least lateness. Plain. (From the template XLineM.) -/
import Init
namespace Go.Proofs.Ytimbkogdlmkdgaa.LineM
/-- the sum of weights times ends, from a time on -/
def cost (p w : Nat → Int) : Int → List Nat → Int
  | _, [] => 0
  | t, x :: l => w x * (t + p x) + cost p w (t + p x) l
def sumI (f : Nat → Int) (l : List Nat) : Int := (l.map f).sum
theorem sumI_cons (f : Nat → Int) (x : Nat) (l : List Nat) : sumI f (x :: l) = f x + sumI f l := rfl
theorem sumI_append (f : Nat → Int) (a b : List Nat) : sumI f (a ++ b) = sumI f a + sumI f b := by simp [sumI, List.sum_append]
theorem sumI_perm {f : Nat → Int} {a b : List Nat} (h : a.Perm b) : sumI f a = sumI f b := by
  induction h with
  | nil => rfl
  | cons x _ ih => rw [sumI_cons, sumI_cons, ih]
  | swap x y l => rw [sumI_cons, sumI_cons, sumI_cons, sumI_cons]; omega
  | trans _ _ h1 h2 => rw [h1, h2]
theorem cost_shift (p w : Nat → Int) (t d : Int) : ∀ l : List Nat, cost p w (t + d) l = cost p w t l + d * sumI w l
  | [] => by simp [cost, sumI]
  | x :: l => by
    unfold cost
    rw [show t + d + p x = (t + p x) + d by omega, cost_shift p w (t + p x) d l, sumI_cons, Int.mul_add, Int.mul_add, Int.mul_add, Int.mul_comm d (w x)]
    omega
/-- one is put ahead of all -/
theorem cost_front {p w : Nat → Int} {x : Nat} : ∀ (s : List Nat) (u : List Nat) (t : Int), (∀ y ∈ s, p x * w y ≤ p y * w x) → cost p w t (x :: (s ++ u)) ≤ cost p w t (s ++ x :: u)
  | [], u, t, _ => Int.le_refl _
  | y :: s, u, t, h => by
    have h1 := cost_front s u (t + p y) (fun z hz => h z (List.mem_cons_of_mem _ hz))
    have h2 := h y (List.mem_cons_self ..)
    have e1 : cost p w t (y :: s ++ x :: u) = w y * (t + p y) + cost p w (t + p y) (s ++ x :: u) := rfl
    have e2 : cost p w t (x :: (y :: s ++ u)) = w x * (t + p x) + (w y * (t + p x + p y) + cost p w (t + p x + p y) (s ++ u)) := rfl
    have e3 : cost p w (t + p y) (x :: (s ++ u)) = w x * (t + p y + p x) + cost p w (t + p y + p x) (s ++ u) := rfl
    rw [e3] at h1
    rw [e1, e2, show t + p x + p y = t + p y + p x by omega]
    have k1 : w x * (t + p y + p x) = w x * (t + p x) + w x * p y := by rw [← Int.mul_add]; congr 1; omega
    have k2 : w y * (t + p y + p x) = w y * (t + p y) + w y * p x := by rw [← Int.mul_add]
    rw [Int.mul_comm (p x) (w y), Int.mul_comm (p y) (w x)] at h2
    omega
theorem smith {p w : Nat → Int} : ∀ (l l' : List Nat) (t : Int), l.Pairwise (fun x y => p x * w y ≤ p y * w x) → l'.Perm l → cost p w t l ≤ cost p w t l'
  | [], l', t, _, hp => by rw [List.perm_nil.1 hp]; exact Int.le_refl _
  | x :: l, l', t, h, hp => by
    have hx : x ∈ l' := hp.mem_iff.2 (List.mem_cons_self ..)
    obtain ⟨s, u, rfl⟩ := List.append_of_mem hx
    have hp2 : (s ++ u).Perm l := (List.perm_cons x).1 (List.perm_middle.symm.trans hp)
    have hc := List.pairwise_cons.1 h
    have h1 := cost_front (p := p) (w := w) (x := x) s u t (fun y hy => hc.1 y (hp2.mem_iff.1 (List.mem_append_left _ hy)))
    have h2 := smith l (s ++ u) (t + p x) hc.2 hp2
    have e1 : cost p w t (x :: l) = w x * (t + p x) + cost p w (t + p x) l := rfl
    have e2 : cost p w t (x :: (s ++ u)) = w x * (t + p x) + cost p w (t + p x) (s ++ u) := rfl
    omega
/-- when each is at its end -/
def endIn (p : Nat → Int) : Int → List Nat → Nat → Int
  | _, [], _ => 0
  | t, x :: l, i => if i = x then t + p x else endIn p (t + p x) l i
theorem endIn_split {p : Nat → Int} {i : Nat} : ∀ (s u : List Nat) (t : Int), i ∉ s → endIn p t (s ++ i :: u) i = t + sumI p s + p i
  | [], u, t, _ => by simp [endIn, sumI]
  | x :: s, u, t, h => by
    have h1 : i ≠ x := fun e => h (by simp [e])
    have h2 : i ∉ s := fun e => h (List.mem_cons_of_mem _ e)
    have e : endIn p t (x :: s ++ i :: u) i = if i = x then t + p x else endIn p (t + p x) (s ++ i :: u) i := rfl
    rw [e, if_neg h1, endIn_split s u (t + p x) h2, sumI_cons]; omega
theorem cost_ends {p w : Nat → Int} : ∀ (l : List Nat) (t : Int), l.Nodup → cost p w t l = sumI (fun i => w i * endIn p t l i) l
  | [], _, _ => rfl
  | x :: l, t, h => by
    have hc := List.nodup_cons.1 h
    have e1 : cost p w t (x :: l) = w x * (t + p x) + cost p w (t + p x) l := rfl
    have e2 : endIn p t (x :: l) x = t + p x := if_pos rfl
    rw [e1, sumI_cons, e2, cost_ends l (t + p x) hc.2]
    congr 1
    unfold sumI
    congr 1
    apply List.map_congr_left
    intro i hi
    have : i ≠ x := fun e => hc.1 (e ▸ hi)
    show w i * endIn p (t + p x) l i = w i * (if i = x then t + p x else endIn p (t + p x) l i)
    rw [if_neg this]
/-- the last in a row of those of a part, and all of the part ahead of it -/
theorem last_of : ∀ (l S : List Nat), S ≠ [] → (∀ x ∈ S, x ∈ l) → ∃ a x b, l = a ++ x :: b ∧ x ∈ S ∧ ∀ y ∈ S, y ∈ a ∨ y = x
  | [], S, hS, h => by
    cases S with
    | nil => exact absurd rfl hS
    | cons y S => exact absurd (h y (List.mem_cons_self ..)) (by simp)
  | z :: l, S, hS, h => by
    by_cases hd : S.filter (fun y => decide (y ≠ z)) = []
    · have hall : ∀ y ∈ S, y = z := fun y hy => by
        apply Classical.byContradiction
        intro hne
        have : y ∈ S.filter (fun y => decide (y ≠ z)) := List.mem_filter.2 ⟨hy, by simpa using hne⟩
        rw [hd] at this; simp at this
      obtain ⟨y, hy⟩ := List.exists_mem_of_ne_nil S hS
      have := hall y hy
      subst this
      exact ⟨[], y, l, rfl, hy, fun w hw => .inr (hall w hw)⟩
    · obtain ⟨a, x, b, e, hx, hall⟩ := last_of l _ hd (fun y hy => by
        obtain ⟨h1, h2⟩ := List.mem_filter.1 hy
        have h2 : y ≠ z := by simpa using h2
        rcases List.mem_cons.1 (h y h1) with h3 | h3
        · exact absurd h3 h2
        · exact h3)
      refine ⟨z :: a, x, b, by rw [e]; rfl, (List.mem_filter.1 hx).1, fun y hy => ?_⟩
      by_cases hz : y = z
      · left; rw [hz]; simp
      · rcases hall y (List.mem_filter.2 ⟨hy, by simpa using hz⟩) with h1 | h1
        · left; exact List.mem_cons_of_mem _ h1
        · right; exact h1
theorem sumI_sub {p : Nat → Int} (hp : ∀ i, 0 ≤ p i) : ∀ (S l : List Nat), S.Nodup → (∀ x ∈ S, x ∈ l) → sumI p S ≤ sumI p l
  | [], l, _, _ => by
    induction l with
    | nil => exact Int.le_refl _
    | cons y l ih => rw [sumI_cons]; have := hp y; have := ih (by simp); simp [sumI] at *; omega
  | x :: S, l, hn, h => by
    have hn' := List.nodup_cons.1 hn
    obtain ⟨a, b, rfl⟩ := List.append_of_mem (h x (List.mem_cons_self ..))
    have := sumI_sub hp S (a ++ b) hn'.2 (fun y hy => by
      have h1 := h y (List.mem_cons_of_mem _ hy)
      have hne : y ≠ x := fun e => hn'.1 (e ▸ hy)
      rcases List.mem_append.1 h1 with h2 | h2
      · exact List.mem_append_left _ h2
      · rcases List.mem_cons.1 h2 with h3 | h3
        · exact absurd h3 hne
        · exact List.mem_append_right _ h3)
    rw [sumI_append] at this
    rw [sumI_cons, sumI_append, sumI_cons]
    omega
/-- Jackson: whoever is late in his order, somebody is as late in any -/
theorem jackson {p d : Nat → Int} (hp : ∀ i, 0 ≤ p i) {l l' : List Nat} (hs : l.Pairwise (fun x y => d x ≤ d y)) (hn : l.Nodup) (hP : l'.Perm l) {k : Nat} (hk : k ∈ l) : ∃ x ∈ l', endIn p 0 l k - d k ≤ endIn p 0 l' x - d x := by
  obtain ⟨a, b, rfl⟩ := List.append_of_mem hk
  have hna : k ∉ a := fun h => by
    have := List.nodup_append.1 hn
    exact this.2.2 k h k (List.mem_cons_self ..) rfl
  obtain ⟨a', x, b', e, hx, hall⟩ := last_of l' (a ++ [k]) (by simp) (fun y hy => hP.mem_iff.2 (by
    rcases List.mem_append.1 hy with h | h
    · exact List.mem_append_left _ h
    · simp at h; subst h; simp))
  have hn' : l'.Nodup := hP.nodup_iff.2 hn
  have hxa : x ∉ a' := fun h => by
    rw [e] at hn'
    have := List.nodup_append.1 hn'
    exact this.2.2 x h x (List.mem_cons_self ..) rfl
  refine ⟨x, by rw [e]; simp, ?_⟩
  rw [endIn_split a b 0 hna, e, endIn_split a' b' 0 hxa]
  have hd : d x ≤ d k := by
    rcases List.mem_append.1 hx with h | h
    · have := List.pairwise_append.1 hs
      exact this.2.2 x h k (List.mem_cons_self ..)
    · simp at h; subst h; exact Int.le_refl _
  have hnS : (a ++ [k]).Nodup := by
    have h1 := List.nodup_append.1 hn
    rw [List.nodup_append]
    exact ⟨h1.1, by simp, fun y hy z hz => by simp at hz; subst hz; exact fun e => hna (e ▸ hy)⟩
  have hsum := sumI_sub hp (a ++ [k]) (a' ++ [x]) hnS (fun y hy => by
    rcases hall y hy with h | h
    · exact List.mem_append_left _ h
    · rw [h]; simp)
  rw [sumI_append, sumI_append] at hsum
  simp only [sumI_cons] at hsum
  have e0 : sumI p [] = 0 := rfl
  rw [e0] at hsum
  omega
end Go.Proofs.Ytimbkogdlmkdgaa.LineM
