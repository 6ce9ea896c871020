/- trip: the map of tours: what is at each key, as the slice itself. -/
import Derived.Test.YtlopcegpolpndaaS3
import Derived.Maps.RangeWalk
import Derived.Maps.OwnSet
namespace Go.Proofs.Ytlopcegpolpndaa
open Go.RowKit Go.Maps

/-- a slice reads as itself -/
def rdS (v : Value) : Option (DataW Value × List MemPlace) :=
  match v with
  | .slice _ _ _ => some (.held v, [])
  | _ => none
theorem rdS_slice (A : Option Addr) (n c : Nat) : rdS (.slice A n c) = some (.held (.slice A n c), []) := rfl
theorem rdS_inv {v : Value} {y : DataW Value × List MemPlace} (h : rdS v = some y) : ∃ t : Option Addr × Nat × Nat, v = .slice t.1 t.2.1 t.2.2 := by
  cases v <;> simp [rdS] at h
  exact ⟨(_, _, _), rfl⟩
theorem keyInt {i : Int} (h : (Lit.int .i64 i).wf = true) : keyOf Try.prog 3 (.int .i64 i) = some (.int .i64 i) := by
  simp [keyOf, Try.underlying3, mapKey, h]
theorem keyInt_inv {v : Value} {kl : Lit} (h : keyOf Try.prog 3 v = some kl) : ∃ i : Int, v = .int .i64 i := by
  obtain ⟨x, h1, _⟩ := Maps.keyOf_int_inv Try.underlying3 h
  exact ⟨x, h1⟩
theorem K3 : Keyed Try.prog 3 := int_keyed Try.underlying3
/-- block b is a map of at most n entries: at i the slice `sv i`, or nothing -/
def TMap (w : World) (b n : Nat) (sv : Int → Option Value) : Prop :=
  ∃ D : DataW Value, w.ownsMap Try.prog 3 rdS b n D ∧ IsMap D ∧ ∀ i z, D.atKey (.int .i64 i) z = match sv i with | some v => .held v | none => z
theorem TMap.kept {w w' : World} {b n : Nat} {sv : Int → Option Value} {row : Option Nat} (h : TMap w b n sv) (hg : w.grownBy w' row) (hne : some b ≠ row) : TMap w' b n sv := by
  obtain ⟨D, h1, h2, h3⟩ := h
  exact ⟨D, h1.kept hg hne, h2, h3⟩
def updO (sv : Int → Option Value) (i : Int) (x : Option Value) (j : Int) : Option Value := if j = i then x else sv j
theorem keyLitI (i : Int) : WideAt.IsKeyLit (Lit.int .i64 i) := by simp [WideAt.IsKeyLit]
theorem put_at {D : DataW Value} {sv : Int → Option Value} (hm : IsMap D) (h : ∀ i z, D.atKey (.int .i64 i) z = match sv i with | some v => .held v | none => z) (i : Int) (hw : (Lit.int .i64 i).wf = true) (v : Value) (j : Int) (z : DataW Value) :
    (D.put (.int .i64 i) (.held v)).atKey (.int .i64 j) z = match updO sv i (some v) j with | some v => .held v | none => z := by
  unfold updO
  by_cases e : j = i
  · subst e
    rw [if_pos rfl, atKey_put_same hm (keyLitI _)]
  · rw [if_neg e, atKey_put_other (by intro h2; injection h2; contradiction), h j z]
theorem del_at {D : DataW Value} {sv : Int → Option Value} (h : ∀ i z, D.atKey (.int .i64 i) z = match sv i with | some v => .held v | none => z) (i : Int) (j : Int) (z : DataW Value) :
    (D.del (.int .i64 i)).atKey (.int .i64 j) z = match updO sv i none j with | some v => .held v | none => z := by
  unfold updO
  by_cases e : j = i
  · subst e
    rw [if_pos rfl, atKey_del_same]
  · rw [if_neg e, atKey_del_other (by intro h2; injection h2; contradiction), h j z]
/-- 'm[k]' -/
theorem TMap.lookup {w : World} {b n : Nat} {sv : Int → Option Value} (h : TMap w b n sv) {i : Int} (hw : (Lit.int .i64 i).wf = true) :
    (Instr.lookup 53 (.map (some b)) (.int .i64 i) false).run Try.prog w = .ok ((sv i).getD (.slice none 0 0)) w := by
  obtain ⟨D, h1, h2, h3⟩ := h
  obtain ⟨v, ps, hrun, hv⟩ := h1.lookup K3 Try.underlying53 (z := .slice none 0 0) (by kernel_rfl) (rdS_slice none 0 0) (keyInt hw)
  rw [hrun]
  rw [h3 i] at hv
  obtain ⟨t, rfl⟩ := rdS_inv hv
  rw [rdS_slice] at hv
  injection hv with hv
  injection hv with hv _
  cases hs : sv i with
  | none => rw [hs] at hv; simp only at hv; injection hv with hv; rw [hv]; rfl
  | some v => rw [hs] at hv; simp only at hv; injection hv with hv; rw [hv]; rfl
end Go.Proofs.Ytlopcegpolpndaa
