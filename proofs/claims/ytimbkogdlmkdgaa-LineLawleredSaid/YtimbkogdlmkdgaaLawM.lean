/- Lawler's law. Plain. (From the template XLawM.) -/
import Derived.Test.YtimbkogdlmkdgaaLineM
namespace Go.Proofs.Ytimbkogdlmkdgaa.LineM

/-- whoever has i ahead of it stands behind i -/
def keeps (n : Nat) (A : Nat → List Int) : List Nat → Prop
  | [] => True
  | i :: b => (∀ x, x < n → (i : Int) ∈ A x → x ∈ b) ∧ keeps n A b
/-- what i costs, if those of b stand behind it -/
def lateC (p w d : Nat → Int) (T : Int) (b : List Nat) (i : Nat) : Int := w i * max 0 (T - sumI p b - d i)
/-- nobody in the row costs more than x -/
def under (p w d : Nat → Int) (T : Int) : List Nat → Int → Prop
  | [], x => 0 ≤ x
  | i :: b, x => lateC p w d T b i ≤ x ∧ under p w d T b x
/-- nothing is left that must stand behind z -/
def open' (n : Nat) (A : Nat → List Int) (s : List Nat) (z : Nat) : Prop := ∀ x, x < n → (z : Int) ∈ A x → x ∈ s
structure LawSt (n : Nat) (p w d : Nat → Int) (A : Nat → List Int) (T : Int) (s : List Nat) (c : Int) : Prop where
  nodup : s.Nodup
  lt : ∀ x ∈ s, x < n
  keeps : LineM.keeps n A s
  cost : ∀ x, c ≤ x ↔ under p w d T s x
  opt : ∀ r : List Nat, r.Perm (List.range n) → LineM.keeps n A r → ∃ q : List Nat, (q ++ s).Perm (List.range n) ∧ LineM.keeps n A (q ++ s) ∧ ∀ x, under p w d T r x → under p w d T (q ++ s) x
section
variable {n : Nat} {p w d : Nat → Int} {A : Nat → List Int} {T : Int}
theorem law_nil : LawSt n p w d A T [] 0 :=
  ⟨List.nodup_nil, by simp, trivial, fun x => Iff.rfl, fun r hr hk => ⟨r, by rw [List.append_nil]; exact hr, by rw [List.append_nil]; exact hk, fun x hx => by rw [List.append_nil]; exact hx⟩⟩
theorem lateC_perm {b b' : List Nat} (h : b.Perm b') (i : Nat) : lateC p w d T b i = lateC p w d T b' i := by
  unfold lateC; rw [sumI_perm h]
theorem keeps_append : ∀ (a b : List Nat), keeps n A (a ++ b) → keeps n A b
  | [], _, h => h
  | _ :: a, b, h => keeps_append a b h.2
theorem under_append : ∀ (a b : List Nat) (x : Int), under p w d T (a ++ b) x → under p w d T b x
  | [], _, _, h => h
  | _ :: a, b, x, h => under_append a b x h.2
/-- i goes behind those of v -/
theorem keeps_move {i : Nat} {s : List Nat} (hi : open' n A s i) : ∀ v : List Nat, keeps n A (i :: (v ++ s)) → i < n → i ∉ v ++ s → keeps n A (v ++ i :: s)
  | [], h, _, _ => ⟨hi, h.2⟩
  | z :: v, h, hin, hnot => by
    have hz := h.2.1
    refine ⟨fun x hx hm => ?_, ?_⟩
    · have := hz x hx hm
      rcases List.mem_append.1 this with h1 | h1
      · exact List.mem_append_left _ h1
      · exact List.mem_append_right _ (List.mem_cons_of_mem _ h1)
    · refine keeps_move hi v ⟨fun x hx hm => List.mem_append_right _ (hi x hx hm), h.2.2⟩ hin (fun hm => hnot (List.mem_cons_of_mem _ hm))
theorem keeps_move2 {i : Nat} {s v : List Nat} (hi : open' n A s i) (hin : i < n) (hnot : i ∉ v ++ s) : ∀ u : List Nat, keeps n A (u ++ i :: (v ++ s)) → keeps n A (u ++ (v ++ i :: s))
  | [], h => keeps_move hi v h hin hnot
  | z :: u, h => by
    have h0 : ∀ x, x < n → (z : Int) ∈ A x → x ∈ u ++ i :: (v ++ s) := h.1
    refine ⟨fun x hx hm => ?_, keeps_move2 hi hin hnot u h.2⟩
    have := h0 x hx hm
    show x ∈ u ++ (v ++ i :: s)
    simp only [List.mem_append, List.mem_cons] at this ⊢
    rcases this with h1 | h1 | h1 | h1
    · exact .inl h1
    · exact .inr (.inr (.inl h1))
    · exact .inr (.inl h1)
    · exact .inr (.inr (.inr h1))
/-- those that come sooner cost no more -/
theorem under_move (hp : ∀ i, 0 ≤ p i) (hw : ∀ i, 0 ≤ w i) {i : Nat} {s : List Nat} {x : Int} (hi : lateC p w d T s i ≤ x) : ∀ v : List Nat, under p w d T (i :: (v ++ s)) x → under p w d T (v ++ i :: s) x
  | [], h => ⟨hi, h.2⟩
  | z :: v, h => by
    have hz := h.2.1
    refine ⟨?_, under_move hp hw hi v ⟨?_, h.2.2⟩⟩
    · refine Int.le_trans ?_ hz
      show lateC p w d T (v ++ i :: s) z ≤ lateC p w d T (v ++ s) z
      unfold lateC
      have e1 : sumI p (v ++ i :: s) = sumI p (v ++ s) + p i := by rw [sumI_append, sumI_cons, sumI_append]; omega
      have h1 := hp i
      rw [e1]
      exact Int.mul_le_mul_of_nonneg_left (by omega) (hw z)
    · -- with less ahead of it than before, i costs no more than at the end
      refine Int.le_trans ?_ hi
      unfold lateC
      refine Int.mul_le_mul_of_nonneg_left ?_ (hw i)
      have h0 : 0 ≤ sumI p v := by
        clear h hz
        induction v with
        | nil => exact Int.le_refl _
        | cons y l ih => rw [sumI_cons]; have := hp y; omega
      rw [sumI_append]; omega
theorem under_move2 (hp : ∀ i, 0 ≤ p i) (hw : ∀ i, 0 ≤ w i) {i : Nat} {s v : List Nat} {x : Int} (hi : lateC p w d T s i ≤ x) : ∀ u : List Nat, under p w d T (u ++ i :: (v ++ s)) x → under p w d T (u ++ (v ++ i :: s)) x
  | [], h => under_move hp hw hi v h
  | z :: u, h => by
    refine ⟨?_, under_move2 hp hw hi u h.2⟩
    have h1 := h.1
    rw [lateC_perm (b' := u ++ (i :: (v ++ s)))]
    · exact h1
    · exact List.Perm.append_left _ List.perm_middle
/-- one more, ahead of the others -/
theorem law_step (hp : ∀ i, 0 ≤ p i) (hw : ∀ i, 0 ≤ w i) {s : List Nat} {c : Int} {i : Nat} (h : LawSt n p w d A T s c) (hin : i < n) (his : i ∉ s) (hi : open' n A s i)
    (hb : ∀ z, z < n → z ∉ s → open' n A s z → lateC p w d T s i ≤ lateC p w d T s z) : LawSt n p w d A T (i :: s) (max c (lateC p w d T s i)) := by
  refine ⟨List.nodup_cons.2 ⟨his, h.nodup⟩, fun x hx => ?_, ⟨hi, h.keeps⟩, fun x => ?_, fun r hr hk => ?_⟩
  · rcases List.mem_cons.1 hx with rfl | h1
    · exact hin
    · exact h.lt x h1
  · have := h.cost x
    rw [Int.max_le, this]
    exact And.comm
  · obtain ⟨q, h1, h2, h3⟩ := h.opt r hr hk
    have hiq : i ∈ q := by
      have : i ∈ q ++ s := h1.mem_iff.2 (List.mem_range.2 hin)
      rcases List.mem_append.1 this with h4 | h4
      · exact h4
      · exact absurd h4 his
    have hnq : (q ++ s).Nodup := h1.nodup_iff.2 List.nodup_range
    -- the last of q costs no less than i
    have hlast : ∃ q' z, q = q' ++ [z] := by
      rcases List.eq_nil_or_concat q with h4 | ⟨q', z, h4⟩
      · rw [h4] at hiq; simp at hiq
      · exact ⟨q', z, by rw [h4, List.concat_eq_append]⟩
    obtain ⟨q', z, hq⟩ := hlast
    have hz : z ∈ q := by rw [hq]; simp
    have hzn : z < n := List.mem_range.1 (h1.mem_iff.1 (List.mem_append_left _ hz))
    have hzs : z ∉ s := fun h4 => (List.nodup_append.1 hnq).2.2 z hz z h4 rfl
    have hk' := h2
    rw [hq, List.append_assoc] at hk'
    have hzo : open' n A s z := (keeps_append q' ([z] ++ s) hk').1
    have hle := hb z hzn hzs hzo
    obtain ⟨u, v, huv⟩ := List.append_of_mem hiq
    subst huv
    have e : (u ++ i :: v) ++ s = u ++ i :: (v ++ s) := by simp
    have e2 : (u ++ v) ++ i :: s = u ++ (v ++ i :: s) := by simp
    refine ⟨u ++ v, ?_, ?_, fun x hx => ?_⟩
    · refine List.Perm.trans ?_ h1
      rw [e, e2]
      exact List.Perm.append_left _ List.perm_middle
    · rw [e2]
      refine keeps_move2 hi hin (fun hm => ?_) u (by rw [← e]; exact h2)
      rw [e] at hnq
      exact (List.nodup_cons.1 (List.nodup_append.1 hnq).2.1).1 hm
    · have h4 := h3 x hx
      have h5 := h4
      rw [hq, List.append_assoc] at h5
      have h6 := (under_append q' ([z] ++ s) x h5).1
      rw [e2]
      rw [e] at h4
      exact under_move2 hp hw (Int.le_trans hle h6) u h4
/-- Lawler: no row that keeps what must be ahead costs less -/
theorem lawler {s : List Nat} {c : Int} (h : LawSt n p w d A T s c) (hs : s.length = n) {r : List Nat} (hr : r.Perm (List.range n)) (hk : keeps n A r) {x : Int} (hx : under p w d T r x) : c ≤ x := by
  obtain ⟨q, h1, _, h3⟩ := h.opt r hr hk
  have hq : q = [] := by
    have := h1.length_eq
    rw [List.length_append, List.length_range] at this
    exact List.length_eq_zero_iff.1 (by omega)
  subst hq
  exact (h.cost x).2 (h3 x hx)
theorem law_perm {s : List Nat} {c : Int} (h : LawSt n p w d A T s c) (hs : s.length = n) : s.Perm (List.range n) := by
  have hsub : ∀ x ∈ s, x ∈ List.range n := fun x hx => List.mem_range.2 (h.lt x hx)
  refine (List.perm_ext_iff_of_nodup h.nodup List.nodup_range).2 (fun x => ⟨hsub x, fun hx => ?_⟩)
  apply Classical.byContradiction
  intro hno
  have h1 : (x :: s).Nodup := List.nodup_cons.2 ⟨hno, h.nodup⟩
  have h2 : ∀ S l : List Nat, S.Nodup → (∀ y ∈ S, y ∈ l) → S.length ≤ l.length := by
    intro S
    induction S with
    | nil => intro l _ _; simp
    | cons y S ih =>
      intro l hn hm
      have hn' := List.nodup_cons.1 hn
      obtain ⟨a, b, rfl⟩ := List.append_of_mem (hm y (List.mem_cons_self ..))
      have := ih (a ++ b) hn'.2 (fun z hz => by
        have h3 := hm z (List.mem_cons_of_mem _ hz)
        have hne : z ≠ y := fun e => hn'.1 (e ▸ hz)
        rcases List.mem_append.1 h3 with h4 | h4
        · exact List.mem_append_left _ h4
        · rcases List.mem_cons.1 h4 with h5 | h5
          · exact absurd h5 hne
          · exact List.mem_append_right _ h5)
      simp only [List.length_append, List.length_cons] at this ⊢
      omega
  have := h2 (x :: s) (List.range n) h1 (fun y hy => by
    rcases List.mem_cons.1 hy with rfl | h3
    · exact hx
    · exact hsub y h3)
  rw [List.length_range, List.length_cons] at this
  omega
/-- by ends -/
theorem under_end : ∀ (l : List Nat), l.Nodup → ∀ (t T x : Int), T = t + sumI p l → (under p w d T l x ↔ 0 ≤ x ∧ ∀ i ∈ l, w i * max 0 (endIn p t l i - d i) ≤ x)
  | [], _, t, T, x, _ => by simp [under]
  | i :: l, h, t, T, x, hT => by
    have hc := List.nodup_cons.1 h
    rw [sumI_cons] at hT
    have ih := under_end l hc.2 (t + p i) T x (by omega)
    have e1 : endIn p t (i :: l) i = t + p i := if_pos rfl
    have e2 : lateC p w d T l i = w i * max 0 (t + p i - d i) := by
      unfold lateC; rw [show T - sumI p l - d i = t + p i - d i by omega]
    show lateC p w d T l i ≤ x ∧ under p w d T l x ↔ _
    rw [ih, e2]
    constructor
    · rintro ⟨h1, h2, h3⟩
      refine ⟨h2, fun j hj => ?_⟩
      rcases List.mem_cons.1 hj with rfl | hj
      · rw [e1]; exact h1
      · have hne : j ≠ i := fun e => hc.1 (e ▸ hj)
        have e3 : endIn p t (i :: l) j = endIn p (t + p i) l j := if_neg hne
        rw [e3]; exact h3 j hj
    · rintro ⟨h2, h3⟩
      refine ⟨by have := h3 i (List.mem_cons_self ..); rw [e1] at this; exact this, h2, fun j hj => ?_⟩
      have hne : j ≠ i := fun e => hc.1 (e ▸ hj)
      have := h3 j (List.mem_cons_of_mem _ hj)
      have e3 : endIn p t (i :: l) j = endIn p (t + p i) l j := if_neg hne
      rw [e3] at this; exact this
/-- where one stands -/
def posIn (l : List Nat) (x : Nat) : Nat := l.idxOf x
theorem pos_split {a b : List Nat} {i : Nat} (h : i ∉ a) : posIn (a ++ i :: b) i = a.length := by
  unfold posIn
  rw [List.idxOf_append, if_neg h]
  simp
theorem keeps_iff : ∀ s : List Nat, keeps n A s ↔ ∀ (a : List Nat) (i : Nat) (b : List Nat), s = a ++ i :: b → ∀ x, x < n → (i : Int) ∈ A x → x ∈ b
  | [] => by
    refine ⟨fun _ a i b e => by simp at e, fun _ => trivial⟩
  | z :: s => by
    show (_ ∧ _) ↔ _
    rw [keeps_iff s]
    constructor
    · rintro ⟨h1, h2⟩ a i b e
      cases a with
      | nil => simp at e; obtain ⟨rfl, rfl⟩ := e; exact h1
      | cons y a => injection e with e1 e2; exact h2 a i b e2
    · intro h
      exact ⟨h [] z s rfl, fun a i b e => h (z :: a) i b (by rw [e]; rfl)⟩
theorem pos_lt {l : List Nat} {x : Nat} (h : x ∈ l) : posIn l x < l.length := List.idxOf_lt_length_of_mem h
theorem keeps_pos {r : List Nat} (hr : r.Perm (List.range n)) (hA : ∀ x, x < n → ∀ k ∈ A x, 0 ≤ k ∧ k < n) : keeps n A r ↔ ∀ x, x < n → ∀ k, k ∈ A x → posIn r k.toNat < posIn r x := by
  have hn : r.Nodup := hr.nodup_iff.2 List.nodup_range
  rw [keeps_iff]
  constructor
  · intro h x hx k hk
    obtain ⟨h0, h1⟩ := hA x hx k hk
    have hm : k.toNat ∈ r := hr.mem_iff.2 (List.mem_range.2 (by omega))
    obtain ⟨a, b, rfl⟩ := List.append_of_mem hm
    have hxb := h a k.toNat b rfl x hx (by rw [Int.toNat_of_nonneg h0]; exact hk)
    have hd := List.nodup_append.1 hn
    have hka : k.toNat ∉ a := fun hh => hd.2.2 _ hh _ (List.mem_cons_self ..) rfl
    have hxa : x ∉ a := fun hh => hd.2.2 _ hh _ (List.mem_cons_of_mem _ hxb) rfl
    have hxk : x ≠ k.toNat := fun e => (List.nodup_cons.1 hd.2.1).1 (e ▸ hxb)
    rw [pos_split hka]
    unfold posIn
    rw [List.idxOf_append, if_neg hxa, List.idxOf_cons]
    have : (k.toNat == x) = false := by rw [beq_eq_false_iff_ne]; exact fun e => hxk e.symm
    rw [this]
    simp
  · intro h a i b e x hx hm
    subst e
    have hd := List.nodup_append.1 hn
    have hia : i ∉ a := fun hh => hd.2.2 _ hh _ (List.mem_cons_self ..) rfl
    have h1 := h x hx (i : Int) hm
    rw [Int.toNat_natCast, pos_split hia] at h1
    have hxm : x ∈ a ++ i :: b := hr.mem_iff.2 (List.mem_range.2 hx)
    rcases List.mem_append.1 hxm with h2 | h2
    · exfalso
      have : posIn (a ++ i :: b) x < a.length := by
        unfold posIn
        rw [List.idxOf_append, if_pos h2]
        exact List.idxOf_lt_length_of_mem h2
      omega
    · rcases List.mem_cons.1 h2 with h3 | h3
      · exfalso
        subst h3
        rw [pos_split hia] at h1
        omega
      · exact h3
/-- how many must still stand behind z -/
def left' (A : Nat → List Int) (s : List Nat) (z : Nat) : Nat → Nat
  | 0 => 0
  | n + 1 => left' A s z n + (if n ∈ s then 0 else (A n).count (z : Int))
theorem left_zero {s : List Nat} {z : Nat} : ∀ n : Nat, left' A s z n = 0 ↔ open' n A s z
  | 0 => by simp [left', open']
  | n + 1 => by
    show left' A s z n + (if n ∈ s then 0 else (A n).count (z : Int)) = 0 ↔ _
    have ih := left_zero (s := s) (z := z) n
    constructor
    · intro h x hx hm
      by_cases e : x = n
      · subst e
        by_cases hs : x ∈ s
        · exact hs
        · rw [if_neg hs] at h
          have := List.count_pos_iff.2 hm
          omega
      · exact ih.1 (by omega) x (by omega) hm
    · intro h
      have h1 := ih.2 (fun x hx hm => h x (by omega) hm)
      have h2 : (if n ∈ s then 0 else (A n).count (z : Int)) = 0 := by
        by_cases hs : n ∈ s
        · rw [if_pos hs]
        · rw [if_neg hs]
          apply Classical.byContradiction
          intro hne
          exact hs (h n (by omega) (List.count_pos_iff.1 (by omega)))
      omega
theorem left_step {s : List Nat} {z i : Nat} (hi : i ∉ s) : ∀ n : Nat, left' A s z n = left' A (i :: s) z n + (if i < n then (A i).count (z : Int) else 0)
  | 0 => by simp [left']
  | n + 1 => by
    show left' A s z n + (if n ∈ s then 0 else (A n).count (z : Int)) = left' A (i :: s) z n + (if n ∈ i :: s then 0 else (A n).count (z : Int)) + _
    rw [left_step hi n]
    by_cases e : n = i
    · subst e
      rw [if_neg hi, if_pos (List.mem_cons_self ..), if_neg (Nat.lt_irrefl _), if_pos (Nat.lt_succ_self _)]
    · have h1 : (n ∈ i :: s) = (n ∈ s) := by rw [List.mem_cons]; simp [e]
      simp only [h1]
      by_cases h2 : i < n
      · rw [if_pos h2, if_pos (show i < n + 1 by omega)]; omega
      · rw [if_neg h2, if_neg (show ¬ i < n + 1 by omega)]; omega
theorem left_le {s : List Nat} {z : Nat} : ∀ n : Nat, left' A s z n ≤ ((List.range n).map (fun x => (A x).length)).sum
  | 0 => by simp [left']
  | n + 1 => by
    show left' A s z n + (if n ∈ s then 0 else (A n).count (z : Int)) ≤ _
    rw [List.range_succ, List.map_append, List.sum_append]
    have h1 := left_le (s := s) (z := z) n
    have h2 := List.count_le_length (a := (z : Int)) (l := A n)
    simp only [List.map_cons, List.map_nil, List.sum_cons, List.sum_nil]
    split <;> omega
end
end Go.Proofs.Ytimbkogdlmkdgaa.LineM
