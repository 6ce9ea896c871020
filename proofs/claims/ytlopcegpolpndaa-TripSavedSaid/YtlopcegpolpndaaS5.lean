/- trip: the map of tours, at its operations. -/
import Derived.Test.YtlopcegpolpndaaS4
namespace Go.Proofs.Ytlopcegpolpndaa
open Go.RowKit Go.Maps

section
variable {w : World} {b n r : Nat} {sv : Int → Option Value} {ops : Array Oper} {rest : List Oper} {o : Oper} {a : Act} {Q : Exit → Act → World → Prop}
theorem tm_made (w : World) : TMap (w.alloc (.map #[] 0)) w.heap.size 0 (fun _ => none) :=
  ⟨.map [], World.ownsMap_made w Try.prog 3 rdS, isMap_empty, fun _ _ => rfl⟩
theorem tm_update (hg : o.guard = none) (m x v : Operand) (hop : o.op = Op.mapUpdate 53 m x v) (h : TMap w b n sv) (hm : a.eval m = .map (some b)) (hn : n < maxLen) (i : Int) (hw : (Lit.int .i64 i).wf = true) (hx : a.eval x = .int .i64 i)
    (A : Option Addr) (k c : Nat) (hv : a.eval v = .slice A k c)
    (hK : ∀ w', TMap w' b (n + 1) (updO sv i (some (.slice A k c))) → w.grownBy w' (some b) → wpList Try.prog ops Q rest (a.put o.dst undef) w') :
    wpList Try.prog ops Q (o :: rest) a w := by
  obtain ⟨D, h1, h2, h3⟩ := h
  exact wpList_mapUpdate_own w hg m x v 53 hop 3 43 K3 Try.underlying53 rdS b n D hm h1 hn _ _ _ hx hv (keyInt hw) _ _ (rdS_slice A k c) (fun w' g1 g2 => hK w' ⟨_, g1, h2.put _ _, put_at h2 h3 i hw _⟩ g2)
theorem tm_delete (hg : o.guard = none) (m x : Operand) (hop : o.op = Op.call { callee := Callee.builtin Builtin.delete, args := #[m, x], argTypes := #[53, 3] }) (h : TMap w b n sv) (hm : a.eval m = .map (some b)) (i : Int) (hw : (Lit.int .i64 i).wf = true) (hx : a.eval x = .int .i64 i)
    (hK : ∀ w', TMap w' b n (updO sv i none) → w.grownBy w' (some b) → wpList Try.prog ops Q rest (a.put o.dst (.tuple #[])) w') :
    wpList Try.prog ops Q (o :: rest) a w := by
  obtain ⟨D, h1, h2, h3⟩ := h
  exact wpList_delete_own w hg m x 53 3 hop 43 K3 Try.underlying53 rdS b n D hm h1 _ _ hx (keyInt hw) (fun w' g1 g2 => hK w' ⟨_, g1, h2.del _, del_at h3 i⟩ g2.grown)
/-- an iterator r over it, `cnt` entries to come -/
def TRan (w : World) (b r n : Nat) (sv : Int → Option Value) (cnt : Nat) : Prop :=
  ∃ (D : DataW Value) (left : Lit → Bool), w.ranges Try.prog 3 rdS b r n D left cnt ∧ IsMap D ∧ ∀ i z, D.atKey (.int .i64 i) z = match sv i with | some v => .held v | none => z
theorem TRan.map {cnt : Nat} (h : TRan w b r n sv cnt) : TMap w b n sv := by
  obtain ⟨D, left, h1, h2, h3⟩ := h
  exact ⟨D, h1.owns, h2, h3⟩
theorem TRan.kept {w' : World} {cnt : Nat} {row : Option Nat} (h : TRan w b r n sv cnt) (hg : w.grownBy w' row) (hb : some b ≠ row) (hr : some r ≠ row) : TRan w' b r n sv cnt := by
  obtain ⟨D, left, h1, h2, h3⟩ := h
  exact ⟨D, left, h1.kept hg hb hr, h2, h3⟩
theorem tm_range (hg : o.guard = none) (m : Operand) (hop : o.op = Op.range 53 m) (h : TMap w b n sv) (hm : a.eval m = .map (some b))
    (hK : ∀ w' cnt, TRan w' b w.heap.size n sv cnt → w.grownBy w' none → w'.heap.size = w.heap.size + 1 → wpList Try.prog ops Q rest (a.put o.dst (.pointer (some ⟨w.heap.size, 0, none⟩))) w') :
    wpList Try.prog ops Q (o :: rest) a w := by
  obtain ⟨D, h1, h2, h3⟩ := h
  exact wpList_range_own w hg m 53 hop 3 43 K3 Try.underlying53 rdS b n D hm h1 (fun w' g1 g2 g3 => hK w' _ ⟨D, _, g1, h2, h3⟩ g2 g3)
theorem tm_next (hg : o.guard = none) (it : Operand) (hop : o.op = Op.next it false) {cnt : Nat} (h : TRan w b r n sv cnt) (hit : a.eval it = .pointer (some ⟨r, 0, none⟩))
    (hDone : wpList Try.prog ops Q rest (a.put o.dst (.tuple #[.bool false])) w)
    (hMore : ∀ (i : Int) (A : Option Addr) (k c : Nat) (w' : World) (cnt' : Nat), sv i = some (.slice A k c) → TRan w' b r n sv cnt' → cnt' < cnt → w.grownBy w' (some r) → w'.heap.size = w.heap.size →
      (Instr.entry (.pointer (some ⟨r, 0, none⟩))).run Try.prog w' = .ok (.tuple #[.int .i64 i, .slice A k c]) w' → wpList Try.prog ops Q rest (a.put o.dst (.tuple #[.bool true, .int .i64 i, .slice A k c])) w') :
    wpList Try.prog ops Q (o :: rest) a w := by
  obtain ⟨D, left, h1, h2, h3⟩ := h
  refine wpList_next_ranges w hg it hop 3 K3 rdS (fun i : Int => Value.int .i64 i) (fun t : Option Addr × Nat × Nat => Value.slice t.1 t.2.1 t.2.2) (fun key kl hk => keyInt_inv hk) (fun v y hy => rdS_inv hy) b r n D left cnt hit h1 (fun _ _ => hDone) ?_
  intro i t kl y w' cnt' hkey _ hy hat hrg hlt hgr hsz hen
  obtain ⟨x, hx1, hx2, hx3⟩ := Maps.keyOf_int_inv Try.underlying3 hkey
  injection hx1 with _ hx1
  subst hx1 hx2
  rw [rdS_slice] at hy
  injection hy with hy
  subst hy
  refine hMore i t.1 t.2.1 t.2.2 w' cnt' ?_ ⟨D, _, hrg, h2, h3⟩ hlt hgr hsz hen
  have h4 := hat .nil
  rw [h3 i .nil] at h4
  cases hs : sv i with
  | none => rw [hs] at h4; simp at h4
  | some v => rw [hs] at h4; simp only at h4; injection h4 with h4; rw [h4]
end
end Go.Proofs.Ytlopcegpolpndaa
