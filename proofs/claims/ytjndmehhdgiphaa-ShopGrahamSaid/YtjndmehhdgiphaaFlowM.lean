/- Two machines, one behind the other: Johnson's order. Plain. (From the template XFlowM.) -/
import Init
namespace Go.Proofs.Ytjndmehhdgiphaa.FlowM
def flow (A B : Nat → Int) : Int → Int → List Nat → Int
  | _, b, [] => b
  | a, b, x :: l => flow A B (a + A x) (max (a + A x) b + B x) l
theorem flow_mono {A B : Nat → Int} : ∀ (l : List Nat) {a b b' : Int}, b ≤ b' → flow A B a b l ≤ flow A B a b' l
  | [], _, _, _, h => h
  | x :: l, a, b, b', h => by
    unfold flow
    exact flow_mono l (by omega)
/-- who goes ahead of whom -/
def Ahead (A B : Nat → Int) (x y : Nat) : Prop := min (A x) (B y) ≤ min (A y) (B x)
theorem flow_swap {A B : Nat → Int} {x y : Nat} (h : Ahead A B x y) (l : List Nat) (a b : Int) : flow A B a b (x :: y :: l) ≤ flow A B a b (y :: x :: l) := by
  unfold Ahead at h
  have e1 : flow A B a b (x :: y :: l) = flow A B (a + A x + A y) (max (a + A x + A y) (max (a + A x) b + B x) + B y) l := rfl
  have e2 : flow A B a b (y :: x :: l) = flow A B (a + A y + A x) (max (a + A y + A x) (max (a + A y) b + B y) + B x) l := rfl
  rw [e1, e2, show a + A y + A x = a + A x + A y by omega]
  exact flow_mono l (by omega)
theorem flow_cons {A B : Nat → Int} (x : Nat) {l l' : List Nat} (h : ∀ a b, flow A B a b l ≤ flow A B a b l') (a b : Int) : flow A B a b (x :: l) ≤ flow A B a b (x :: l') := by
  unfold flow
  exact h _ _
theorem flow_front {A B : Nat → Int} {x : Nat} : ∀ (s u : List Nat), (∀ y ∈ s, Ahead A B x y) → ∀ a b, flow A B a b (x :: (s ++ u)) ≤ flow A B a b (s ++ x :: u)
  | [], _, _, _, _ => Int.le_refl _
  | y :: s, u, h, a, b => by
    have h1 := flow_front s u (fun z hz => h z (List.mem_cons_of_mem _ hz))
    exact Int.le_trans (flow_swap (h y (List.mem_cons_self ..)) (s ++ u) a b) (flow_cons y h1 a b)
theorem johnson {A B : Nat → Int} : ∀ (l l' : List Nat), l.Pairwise (Ahead A B) → l'.Perm l → ∀ a b, flow A B a b l ≤ flow A B a b l'
  | [], l', _, hp, _, _ => by rw [List.perm_nil.1 hp]; exact Int.le_refl _
  | x :: l, l', h, hp, a, b => by
    have hx : x ∈ l' := hp.mem_iff.2 (List.mem_cons_self ..)
    obtain ⟨s, u, rfl⟩ := List.append_of_mem hx
    have hp2 : (s ++ u).Perm l := (List.perm_cons x).1 (List.perm_middle.symm.trans hp)
    have hc := List.pairwise_cons.1 h
    have h1 := flow_front (A := A) (B := B) (x := x) s u (fun y hy => hc.1 y (hp2.mem_iff.1 (List.mem_append_left _ hy))) a b
    have h2 := flow_cons (A := A) (B := B) x (johnson l (s ++ u) hc.2 hp2) a b
    omega
/-- Johnson's comparison of the i-th with the k-th -/
def jcmp (A B : Nat → Int) (i k : Nat) : Int :=
  if A i ≤ B i then (if A k ≤ B k then A i - A k else -1) else (if A k ≤ B k then 1 else B k - B i)
theorem ahead_of {A B : Nat → Int} {x y : Nat} (h : ¬ jcmp A B y x < 0) : Ahead A B x y := by
  unfold jcmp at h
  unfold Ahead
  by_cases h1 : A y ≤ B y
  · rw [if_pos h1] at h
    by_cases h2 : A x ≤ B x
    · rw [if_pos h2] at h; omega
    · rw [if_neg h2] at h; omega
  · rw [if_neg h1] at h
    by_cases h2 : A x ≤ B x
    · omega
    · rw [if_neg h2] at h; omega
theorem jcmp_total {A B : Nat → Int} (x y : Nat) : ¬ jcmp A B y x < 0 ∨ ¬ jcmp A B x y < 0 := by
  unfold jcmp
  by_cases h1 : A y ≤ B y <;> by_cases h2 : A x ≤ B x <;> simp only [h1, h2, if_true, if_false] <;> omega
theorem jcmp_trans {A B : Nat → Int} {x y z : Nat} (h : ¬ jcmp A B y x < 0) (k : ¬ jcmp A B z y < 0) : ¬ jcmp A B z x < 0 := by
  unfold jcmp at *
  by_cases h1 : A y ≤ B y <;> by_cases h2 : A x ≤ B x <;> by_cases h3 : A z ≤ B z <;> simp only [h1, h2, h3, if_true, if_false] at * <;> omega
end Go.Proofs.Ytjndmehhdgiphaa.FlowM
