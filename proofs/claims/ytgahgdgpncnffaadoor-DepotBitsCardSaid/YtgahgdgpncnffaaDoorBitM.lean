/- A journal's byte lies in a line; where that line begins. Plain. -/
import Derived.Test.YtgahgdgpncnffaaDoorDepM
namespace Go.Proofs.YtgahgdgpncnffaaDoor.DepM
open Go.Lib

theorem Jf_at : ∀ {acc : List Mv} {n k : Nat}, k < (Jf n acc).length → ∃ a1 m a2 u x v, acc = a1 ++ m :: a2 ∧ lineB (n + a1.length) m = u ++ x :: v ∧ k = (Jf n a1).length + u.length
  | [], _, k, h => absurd h (by simp [Jf])
  | m :: acc, n, k, h => by
    by_cases hk : k < (lineB n m).length
    · refine ⟨[], m, acc, (lineB n m).take k, (lineB n m)[k], (lineB n m).drop (k + 1), rfl, ?_, ?_⟩
      · show lineB n m = _
        rw [← List.drop_eq_getElem_cons hk, List.take_append_drop]
      · simp only [Jf, List.length_nil, List.length_take]; omega
    · simp only [Jf, List.length_append] at h
      obtain ⟨a1, m', a2, u, x, v, h1, h2, h3⟩ := Jf_at (acc := acc) (n := n + 1) (k := k - (lineB n m).length) (by omega)
      refine ⟨m :: a1, m', a2, u, x, v, by rw [h1]; rfl, ?_, ?_⟩
      · rw [List.length_cons, show n + (a1.length + 1) = n + 1 + a1.length by omega]; exact h2
      · simp only [Jf, List.length_append]; omega
/-- what the turned byte's line is -/
structure Spot (acc : List Mv) (k : Nat) (a1 : List Mv) (m : Mv) (a2 : List Mv) (u : Bs) (x : UInt8) (v : Bs) : Prop where
  eq : acc = a1 ++ m :: a2
  line : lineB a1.length m = u ++ x :: v
  pos : k = (J a1).length + u.length
theorem spot_of {acc : List Mv} {k : Nat} (h : k < (J acc).length) : ∃ a1 m a2 u x v, Spot acc k a1 m a2 u x v := by
  obtain ⟨a1, m, a2, u, x, v, h1, h2, h3⟩ := Jf_at (n := 0) h
  rw [Nat.zero_add] at h2
  exact ⟨a1, m, a2, u, x, v, h1, h2, h3⟩
section
variable {acc a1 a2 : List Mv} {k : Nat} {m : Mv} {u v : Bs} {x : UInt8}
theorem Spot.bytes (h : Spot acc k a1 m a2 u x v) : J acc = J a1 ++ (u ++ x :: v ++ Jf (a1.length + 1) a2) := by
  have h1 : J acc = J a1 ++ Jf (0 + a1.length) (m :: a2) := by rw [h.eq]; exact Jf_append 0 a1 (m :: a2)
  rw [h1, Nat.zero_add, Jf, h.line]
theorem Spot.at (h : Spot acc k a1 m a2 u x v) : (J acc)[k]? = some x := by
  rw [h.bytes, h.pos, List.getElem?_append_right (by omega), Nat.add_sub_cancel_left, List.append_assoc, List.getElem?_append_right (by omega), Nat.sub_self]
  rfl
theorem Spot.set (h : Spot acc k a1 m a2 u x v) (y : UInt8) : (J acc).set k y = J a1 ++ (u ++ y :: v ++ Jf (a1.length + 1) a2) := by
  rw [h.bytes, h.pos, List.set_append_right _ _ (by omega), Nat.add_sub_cancel_left, List.append_assoc, List.set_append_right _ _ (by omega), Nat.sub_self]
  simp
theorem Spot.no10 (h : Spot acc k a1 m a2 u x v) (hv : Valid acc) : (10 : UInt8) ∉ u := fun h10 => by
  have hm := (hv.all m (by rw [h.eq]; simp)).1
  have h1 : body a1.length m ++ [10] = u ++ x :: v := h.line
  have h2 := congrArg List.length h1
  simp at h2
  have h3 : u = (body a1.length m).take u.length := by
    have h4 := congrArg (List.take u.length) h1
    rw [List.take_left, List.take_append_of_le_length (by omega)] at h4
    exact h4.symm
  rw [h3] at h10
  exact body_no10 hm (List.mem_of_mem_take h10)
theorem Spot.inside (h : Spot acc k a1 m a2 u x v) (hv : Valid acc) {j : Nat} (h0 : (J a1).length < j) (h1 : j ≤ k) : ∃ b, (J acc)[j - 1]? = some b ∧ b ≠ 10 := by
  have hlt : j - 1 - (J a1).length < u.length := by have := h.pos; omega
  refine ⟨u[j - 1 - (J a1).length], ?_, fun e => h.no10 hv (by rw [← e]; exact List.getElem_mem hlt)⟩
  rw [h.bytes, List.getElem?_append_right (by omega), List.append_assoc, List.getElem?_append_left hlt, List.getElem?_eq_getElem hlt]
theorem Spot.edge (h : Spot acc k a1 m a2 u x v) (h0 : 0 < (J a1).length) : (J acc)[(J a1).length - 1]? = some 10 := by
  obtain ⟨a, b, rfl⟩ : ∃ a b, a1 = a ++ [b] := by
    have hne : a1 ≠ [] := fun e => by subst e; simp [J, Jf] at h0
    exact ⟨a1.dropLast, a1.getLast hne, (List.dropLast_concat_getLast hne).symm⟩
  have h1 : J (a ++ [b]) = (J a ++ body a.length b) ++ [10] := by rw [J_snoc]; unfold lineB; rw [List.append_assoc]
  rw [h.bytes, List.getElem?_append_left (by omega), h1]
  simp
theorem Spot.start (h : Spot acc k a1 m a2 u x v) : (J acc).take (J a1).length = J a1 := by rw [h.bytes, List.take_left]
end
end Go.Proofs.YtgahgdgpncnffaaDoor.DepM
