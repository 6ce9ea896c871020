/- Moore and Hodgson's law. Plain. (From the template XMooreM.) -/
import Derived.Test.YtimbkogdlmkdgaaLineM
namespace Go.Proofs.Ytimbkogdlmkdgaa.LineM

/-- each is at its end in time -/
def feas (p d : Nat → Int) (F : List Nat) : Prop := ∀ a x b, F = a ++ x :: b → sumI p a + p x ≤ d x
theorem len_sum (S : List Nat) : sumI (fun _ => 1) S = (S.length : Int) := by
  induction S with
  | nil => rfl
  | cons x S ih => rw [sumI_cons, ih, List.length_cons]; omega
theorem len_sub {S l : List Nat} (hn : S.Nodup) (h : ∀ x ∈ S, x ∈ l) : S.length ≤ l.length := by
  have := sumI_sub (p := fun _ => 1) (fun _ => by omega) S l hn h
  rw [len_sum, len_sum] at this
  omega
theorem feas_snoc {p d : Nat → Int} {on : List Nat} {i : Nat} (h : feas p d on) (hi : sumI p on + p i ≤ d i) : feas p d (on ++ [i]) := by
  intro a x b e
  rcases List.append_eq_append_iff.1 e with ⟨c, h1, h2⟩ | ⟨c, h1, h2⟩
  · cases c with
    | nil =>
      simp at h1 h2
      obtain ⟨rfl, rfl⟩ := h2
      subst h1
      exact hi
    | cons z c =>
      have h3 := congrArg List.length h2
      simp at h3
  · cases c with
    | nil =>
      simp at h1 h2
      obtain ⟨rfl, rfl⟩ := h2
      subst h1
      exact hi
    | cons z c =>
      injection h2 with h3 h4
      subst h3
      exact h a x c h1
theorem feas_init {p d : Nat → Int} {F : List Nat} {i : Nat} (h : feas p d (F ++ [i])) : feas p d F ∧ sumI p F + p i ≤ d i :=
  ⟨fun a x b e => h a x (b ++ [i]) (by rw [e]; simp), h F i [] rfl⟩
/-- one taken away -/
theorem feas_drop {p d : Nat → Int} (hp : ∀ i, 0 ≤ p i) {on u v : List Nat} {i k : Nat} (h : feas p d on) (hs : ∀ y ∈ on, d y ≤ d i) (e : on ++ [i] = u ++ k :: v) (hk : ∀ x ∈ on ++ [i], p x ≤ p k) : feas p d (u ++ v) := by
  -- the last of v is i, or v is empty and k = i
  rcases List.eq_nil_or_concat v with rfl | ⟨v', z, rfl⟩
  · have h1 : on = u ∧ i = k := by
      have := List.append_inj' e rfl
      exact ⟨this.1, by injection this.2⟩
    rw [List.append_nil, ← h1.1]
    exact h
  · rw [List.concat_eq_append] at *
    have e' : on ++ [i] = (u ++ k :: v') ++ [z] := by rw [e]; simp
    have h1 := List.append_inj' e' rfl
    have hiz : i = z := by injection h1.2
    subst hiz
    have hon := h1.1
    rw [← List.append_assoc]
    have hpu : sumI p (u ++ v') + p i ≤ sumI p on := by
      have := hk i (by simp)
      rw [hon, sumI_append, sumI_append, sumI_cons]; omega
    refine feas_snoc ?_ ?_
    · intro a x b hab
      rcases List.append_eq_append_iff.1 hab with ⟨c, h2, h3⟩ | ⟨c, h2, h3⟩
      · -- a = u ++ c, v' = c ++ x :: b
        have := h (u ++ k :: c) x b (by rw [hon, h3]; simp)
        have hpk := hp k
        rw [sumI_append, sumI_cons] at this
        rw [h2, sumI_append]
        omega
      · cases c with
        | nil =>
          simp at h2 h3
          have := h (u ++ [k]) x b (by rw [hon, ← h3]; simp)
          have hpk := hp k
          rw [sumI_append, sumI_cons] at this
          rw [← h2]
          simp [sumI] at this ⊢
          omega
        | cons y c =>
          injection h3 with h4 h5
          subst h4
          exact h a x (c ++ k :: v') (by rw [hon, h2]; simp)
    · -- on is not empty
      rcases List.eq_nil_or_concat on with h0 | ⟨o, y, h0⟩
      · rw [h0] at hon
        have h3 := congrArg List.length hon
        simp at h3
      · rw [List.concat_eq_append] at h0
        have := h o y [] h0
        have hd := hs y (by rw [h0]; simp)
        have hsum : sumI p on = sumI p o + p y := by rw [h0, sumI_append, sumI_cons]; simp [sumI]
        omega
/-- Moore's row so far -/
structure MooreSt (p d : Nat → Int) (q on off : List Nat) : Prop where
  perm : (on ++ off).Perm q
  feas : feas p d on
  opt : ∀ F : List Nat, F.Sublist q → LineM.feas p d F → ∃ T : List Nat, T.Nodup ∧ (∀ x ∈ T, x ∈ on) ∧ T.length = F.length ∧ sumI p T ≤ sumI p F
theorem moore_nil {p d : Nat → Int} : MooreSt p d [] [] [] :=
  ⟨.refl _, fun a x b e => by simp at e, fun F hF _ => by
    rw [List.sublist_nil.1 hF]
    exact ⟨[], List.nodup_nil, by simp, rfl, Int.le_refl _⟩⟩
theorem sublist_snoc {F q : List Nat} {i : Nat} (h : F.Sublist (q ++ [i])) : F.Sublist q ∨ ∃ F', F = F' ++ [i] ∧ F'.Sublist q := by
  obtain ⟨a, b, rfl, h1, h2⟩ := List.sublist_append_iff.1 h
  cases h2 with
  | cons _ h3 =>
    rw [List.sublist_nil.1 h3, List.append_nil]
    exact .inl h1
  | cons_cons _ h3 =>
    rw [List.sublist_nil.1 h3]
    exact .inr ⟨a, rfl, h1⟩
/-- the set that one has to do with, once i came -/
theorem moore_came {p d : Nat → Int} {q on off : List Nat} {i : Nat} (h : MooreSt p d q on off) (hn : (q ++ [i]).Nodup) {F : List Nat} (hF : F.Sublist (q ++ [i])) (hf : feas p d F) :
    ∃ T : List Nat, T.Nodup ∧ (∀ x ∈ T, x ∈ on ++ [i]) ∧ T.length = F.length ∧ sumI p T ≤ sumI p F := by
  rcases sublist_snoc hF with h1 | ⟨F', rfl, h1⟩
  · obtain ⟨T, t1, t2, t3, t4⟩ := h.opt F h1 hf
    exact ⟨T, t1, fun x hx => List.mem_append_left _ (t2 x hx), t3, t4⟩
  · obtain ⟨T, t1, t2, t3, t4⟩ := h.opt F' h1 (feas_init hf).1
    have hi : i ∉ T := fun hx => by
      have h2 : i ∈ q := h.perm.mem_iff.1 (List.mem_append_left _ (t2 i hx))
      exact (List.nodup_append.1 hn).2.2 i h2 i (by simp) rfl
    refine ⟨T ++ [i], ?_, ?_, by simp [t3], ?_⟩
    · rw [List.nodup_append]
      exact ⟨t1, by simp, fun x hx y hy => by simp at hy; subst hy; exact fun e => hi (e ▸ hx)⟩
    · intro x hx
      rcases List.mem_append.1 hx with h2 | h2
      · exact List.mem_append_left _ (t2 x h2)
      · exact List.mem_append_right _ h2
    · rw [sumI_append, sumI_append]; omega
theorem moore_keep {p d : Nat → Int} {q on off : List Nat} {i : Nat} (h : MooreSt p d q on off) (hn : (q ++ [i]).Nodup) (hi : sumI p on + p i ≤ d i) : MooreSt p d (q ++ [i]) (on ++ [i]) off := by
  refine ⟨?_, feas_snoc h.feas hi, fun F hF hf => moore_came h hn hF hf⟩
  have h1 : (on ++ [i] ++ off).Perm (on ++ off ++ [i]) := by
    rw [List.append_assoc, List.append_assoc]
    exact List.Perm.append_left _ List.perm_append_comm
  exact h1.trans (h.perm.append_right _)
theorem moore_drop {p d : Nat → Int} (hp : ∀ i, 0 ≤ p i) {q on off u v : List Nat} {i k : Nat} (h : MooreSt p d q on off) (hn : (q ++ [i]).Nodup) (hs : ∀ y ∈ q, d y ≤ d i) (hi : d i < sumI p on + p i)
    (e : on ++ [i] = u ++ k :: v) (hk : ∀ x ∈ on ++ [i], p x ≤ p k) : MooreSt p d (q ++ [i]) (u ++ v) (off ++ [k]) := by
  have hnO : (on ++ [i]).Nodup := by
    have h1 : ((on ++ off) ++ [i]).Nodup := (h.perm.append_right [i]).nodup_iff.2 hn
    have h2 := List.nodup_append.1 h1
    rw [List.nodup_append]
    refine ⟨(List.nodup_append.1 h2.1).1, by simp, fun x hx y hy => h2.2.2 x (List.mem_append_left _ hx) y hy⟩
  have hku : ∀ x, x ∈ on ++ [i] → x ≠ k → x ∈ u ++ v := fun x hx hne => by
    rw [e] at hx
    rcases List.mem_append.1 hx with h1 | h1
    · exact List.mem_append_left _ h1
    · rcases List.mem_cons.1 h1 with h2 | h2
      · exact absurd h2 hne
      · exact List.mem_append_right _ h2
  refine ⟨?_, feas_drop hp h.feas (fun y hy => hs y (h.perm.mem_iff.1 (List.mem_append_left _ hy))) e hk, fun F hF hf => ?_⟩
  · have h1 : (u ++ v ++ (off ++ [k])).Perm ((on ++ [i]) ++ off) := by
      rw [e]
      have h2 : (off ++ [k]).Perm (k :: off) := List.perm_append_comm
      refine (List.Perm.append_left _ h2).trans ?_
      rw [List.append_assoc, List.append_assoc]
      refine List.Perm.append_left _ ?_
      rw [List.cons_append]
      exact List.perm_middle
    refine h1.trans ?_
    have h3 : (on ++ [i] ++ off).Perm (on ++ off ++ [i]) := by
      rw [List.append_assoc, List.append_assoc]
      exact List.Perm.append_left _ List.perm_append_comm
    exact h3.trans (h.perm.append_right _)
  · obtain ⟨T, t1, t2, t3, t4⟩ := moore_came h hn hF hf
    by_cases hkT : k ∈ T
    · by_cases hz : ∃ z, z ∈ on ++ [i] ∧ z ∉ T
      · obtain ⟨z, hz1, hz2⟩ := hz
        have hpe := List.perm_cons_erase hkT
        have hne : (T.erase k).Nodup := (List.nodup_cons.1 (hpe.nodup_iff.1 t1)).2
        have hke : k ∉ T.erase k := (List.nodup_cons.1 (hpe.nodup_iff.1 t1)).1
        refine ⟨z :: T.erase k, List.nodup_cons.2 ⟨fun h1 => hz2 (List.mem_of_mem_erase h1), hne⟩, fun x hx => ?_, ?_, ?_⟩
        · rcases List.mem_cons.1 hx with rfl | h1
          · exact hku x hz1 (fun e1 => hz2 (e1 ▸ hkT))
          · exact hku x (t2 x (List.mem_of_mem_erase h1)) (fun e1 => hke (e1 ▸ h1))
        · have := hpe.length_eq
          rw [List.length_cons] at this ⊢
          omega
        · have h1 := sumI_perm (f := p) hpe
          have h2 := hk z hz1
          rw [sumI_cons] at h1 ⊢
          omega
      · exfalso
        have hall : ∀ z, z ∈ on ++ [i] → z ∈ T := fun z hz1 => Classical.byContradiction fun h1 => hz ⟨z, hz1, h1⟩
        have hpm : T.Perm (on ++ [i]) := (List.perm_ext_iff_of_nodup t1 hnO).2 (fun x => ⟨t2 x, hall x⟩)
        have hsum := sumI_perm (f := p) hpm
        have hlen := hpm.length_eq
        have e1 : sumI p (on ++ [i]) = sumI p on + p i := by rw [sumI_append, sumI_cons]; simp [sumI]
        rw [List.length_append, List.length_singleton] at hlen
        rcases sublist_snoc hF with h1 | ⟨F', rfl, h1⟩
        · obtain ⟨T2, s1, s2, s3, _⟩ := h.opt F h1 hf
          have := len_sub s1 s2
          omega
        · have h2 := (feas_init hf).2
          have e2 : sumI p (F' ++ [i]) = sumI p F' + p i := by rw [sumI_append, sumI_cons]; simp [sumI]
          omega
    · exact ⟨T, t1, fun x hx => hku x (t2 x hx) (fun e1 => hkT (e1 ▸ hx)), t3, t4⟩

/-- those that are in time in an order, in the order of due times -/
theorem feas_ontime {p d : Nat → Int} (hp : ∀ i, 0 ≤ p i) {r l' : List Nat} (hs : r.Pairwise (fun x y => d x ≤ d y)) (hn : r.Nodup) (hP : l'.Perm r) :
    feas p d (r.filter (fun i => decide (endIn p 0 l' i ≤ d i))) := by
  intro a x b e
  have hnF : (r.filter (fun i => decide (endIn p 0 l' i ≤ d i))).Nodup := hn.filter _
  have hsF : (r.filter (fun i => decide (endIn p 0 l' i ≤ d i))).Pairwise (fun x y => d x ≤ d y) := hs.filter _
  have hin : ∀ y, y ∈ a ++ [x] → y ∈ r ∧ endIn p 0 l' y ≤ d y := fun y hy => by
    have : y ∈ r.filter (fun i => decide (endIn p 0 l' i ≤ d i)) := by
      rw [e]
      rcases List.mem_append.1 hy with h1 | h1
      · exact List.mem_append_left _ h1
      · simp at h1; subst h1; simp
    obtain ⟨h1, h2⟩ := List.mem_filter.1 this
    exact ⟨h1, by simpa using h2⟩
  rw [e] at hnF hsF
  have hnS : (a ++ [x]).Nodup := by
    have h1 := List.nodup_append.1 hnF
    rw [List.nodup_append]
    exact ⟨h1.1, by simp, fun y hy z hz => by simp at hz; subst hz; exact h1.2.2 y hy z (List.mem_cons_self ..)⟩
  obtain ⟨a', z, b', e', hz, hall⟩ := last_of l' (a ++ [x]) (by simp) (fun y hy => hP.mem_iff.2 (hin y hy).1)
  have hn' : l'.Nodup := hP.nodup_iff.2 hn
  have hza : z ∉ a' := fun h => by
    rw [e'] at hn'
    exact (List.nodup_append.1 hn').2.2 z h z (List.mem_cons_self ..) rfl
  have hend : endIn p 0 l' z = sumI p a' + p z := by rw [e', endIn_split a' b' 0 hza]; omega
  have hsum := sumI_sub hp (a ++ [x]) (a' ++ [z]) hnS (fun y hy => by
    rcases hall y hy with h1 | h1
    · exact List.mem_append_left _ h1
    · rw [h1]; simp)
  have hdz : d z ≤ d x := by
    rcases List.mem_append.1 hz with h1 | h1
    · exact (List.pairwise_append.1 hsF).2.2 z h1 x (List.mem_cons_self ..)
    · simp at h1; subst h1; exact Int.le_refl _
  have hle := (hin z hz).2
  have e1 : sumI p (a ++ [x]) = sumI p a + p x := by rw [sumI_append, sumI_cons]; simp [sumI]
  have e2 : sumI p (a' ++ [z]) = sumI p a' + p z := by rw [sumI_append, sumI_cons]; simp [sumI]
  omega
/-- how many are late -/
def lateN (p d : Nat → Int) (n : Nat) (l : List Nat) : Nat := ((List.range n).filter (fun i => decide (d i < endIn p 0 l i))).length
theorem filter_len (P : Nat → Bool) : ∀ l : List Nat, (l.filter P).length + (l.filter (fun i => !P i)).length = l.length
  | [] => rfl
  | x :: l => by
    have := filter_len P l
    cases h : P x <;> simp [h] <;> omega
/-- Moore and Hodgson -/
theorem moore {p d : Nat → Int} (hp : ∀ i, 0 ≤ p i) {n : Nat} {r on off l' : List Nat} (hs : r.Pairwise (fun x y => d x ≤ d y)) (hr : r.Perm (List.range n)) (h : MooreSt p d r on off) (hP : l'.Perm (List.range n)) :
    lateN p d n (on ++ off) ≤ lateN p d n l' := by
  have hn : r.Nodup := hr.nodup_iff.2 List.nodup_range
  have h1 := feas_ontime hp hs hn (hP.trans hr.symm)
  obtain ⟨T, t1, t2, t3, _⟩ := h.opt _ List.filter_sublist h1
  have h2 := len_sub t1 t2
  have h3 : (r.filter (fun i => decide (endIn p 0 l' i ≤ d i))).length = ((List.range n).filter (fun i => decide (endIn p 0 l' i ≤ d i))).length := (hr.filter _).length_eq
  have h4 := filter_len (fun i => decide (endIn p 0 l' i ≤ d i)) (List.range n)
  have h5 : (List.range n).filter (fun i => !decide (endIn p 0 l' i ≤ d i)) = (List.range n).filter (fun i => decide (d i < endIn p 0 l' i)) := by
    apply List.filter_congr
    intro x _
    by_cases hx : endIn p 0 l' x ≤ d x
    · have : ¬ d x < endIn p 0 l' x := by omega
      simp [hx, this]
    · have : d x < endIn p 0 l' x := by omega
      simp [hx, this]
  rw [h5, List.length_range] at h4
  -- whoever is late in Moore's row is among those put off
  have hno : (on ++ off).Nodup := h.perm.nodup_iff.2 hn
  have h6 : lateN p d n (on ++ off) ≤ off.length := by
    refine len_sub (List.nodup_range.filter _) (fun x hx => ?_)
    obtain ⟨h7, h8⟩ := List.mem_filter.1 hx
    have h8 : d x < endIn p 0 (on ++ off) x := by simpa using h8
    have hm : x ∈ on ++ off := h.perm.mem_iff.2 (hr.mem_iff.2 h7)
    rcases List.mem_append.1 hm with h9 | h9
    · exfalso
      obtain ⟨a, b, rfl⟩ := List.append_of_mem h9
      have hf := h.feas a x b rfl
      have hxa : x ∉ a := fun hh => by
        have h10 := (List.nodup_append.1 hno).1
        exact (List.nodup_append.1 h10).2.2 x hh x (List.mem_cons_self ..) rfl
      have e : endIn p 0 (a ++ x :: b ++ off) x = 0 + sumI p a + p x := by
        rw [List.append_assoc, List.cons_append]
        exact endIn_split a (b ++ off) 0 hxa
      omega
    · exact h9
  have h7 : on.length + off.length = n := by
    have := (h.perm.trans hr).length_eq
    rw [List.length_append, List.length_range] at this
    exact this
  unfold lateN at h6 ⊢
  omega
end Go.Proofs.Ytimbkogdlmkdgaa.LineM
