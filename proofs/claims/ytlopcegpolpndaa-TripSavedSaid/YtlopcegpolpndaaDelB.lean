/- Rows of a call's own, and what only turns one of them. (From the template XDelB.) -/
import Derived.Test.YtlopcegpolpndaaLib
import Derived.Lib.LazyBuf
import Derived.Lib.SliceRun
import Derived.WalkSpells
namespace Go.Proofs.Ytlopcegpolpndaa
open Go.RowKit

/-- only block B, and what is new, has turned -/
structure OnlyD (w w' : World) (B : Nat) : Prop where
  os : w'.os = w.os
  tape : w'.tape = w.tape
  output : w'.output = w.output
  size : w.heap.size ≤ w'.heap.size
  block : ∀ k, k < w.heap.size → k ≠ B → w'.heap[k]? = w.heap[k]?
theorem OnlyD.refl (w : World) (B : Nat) : OnlyD w w B := ⟨rfl, rfl, rfl, Nat.le_refl _, fun _ _ _ => rfl⟩
theorem OnlyD.setCell {w w' : World} {B : Nat} (h : OnlyD w w' B) (i : Nat) (v : Value) : OnlyD w (w'.setCell ⟨B, i, none⟩ v) B :=
  ⟨h.os, h.tape, h.output, by simpa [World.setCell] using h.size, fun k hk hne => (Below.heap_setCell w' ⟨B, i, none⟩ v k hne).trans (h.block k hk hne)⟩
theorem OnlyD.since {a w w' : World} {B : Nat} (h : OnlyD w w' B) (hs : a.Since a.heap.size w) (hB : a.heap.size ≤ B) : a.Since a.heap.size w' :=
  ⟨h.os.trans hs.os, h.tape.trans hs.tape, h.output.trans hs.output, Nat.le_trans hs.size h.size, fun k hk => (h.block k (Nat.lt_of_lt_of_le hk hs.size) (by omega)).trans (hs.block k hk)⟩
theorem OnlyD.cell {w w' : World} {B : Nat} (h : OnlyD w w' B) {a : Addr} (ha : a.block < w.heap.size) (hne : a.block ≠ B) : w'.cell? a = w.cell? a := World.cell?_of_block (h.block _ ha hne)
theorem OnlyD.setCells {w : World} {B : Nat} : ∀ (vs : List Value) (o : Nat) (w' : World), OnlyD w w' B → OnlyD w (w'.setCells B o vs) B
  | [], _, _, h => h
  | v :: vs, o, w', h => OnlyD.setCells vs (o + 1) (w'.setCell ⟨B, o, none⟩ v) (h.setCell o v)
theorem take_snocI {xs : List Int} {k : Nat} {x : Int} (h : xs[k]? = some x) : xs.take (k + 1) = xs.take k ++ [x] := by
  obtain ⟨hk, he⟩ := List.getElem?_eq_some_iff.1 h
  rw [List.take_succ_eq_append_getElem hk, he]
/-- a row whose first cells are a list -/
def HoldsI (f : Nat → Value) (xs : List Int) : Prop := ∀ (i : Nat) (x : Int), xs[i]? = some x → f i = .int .i64 x
def DelPost (B N : Nat) (cap : Nat) (ys : List Int) (w : World) (e : Ending) (w' : World) : Prop :=
  OnlyD w w' B ∧ e = .returned (.slice (some ⟨B, 0, none⟩) ys.length cap) ∧ ∃ f, w'.rowIs B 3 N f ∧ HoldsI f ys
end Go.Proofs.Ytlopcegpolpndaa
