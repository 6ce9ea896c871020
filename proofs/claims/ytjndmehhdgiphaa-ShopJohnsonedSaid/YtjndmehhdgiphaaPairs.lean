/- Arguments read as lists: slices of structs of two ints. (From the template XPairs.) -/
import Derived.Test.YtjndmehhdgiphaaArgs
namespace Go.Proofs.Ytjndmehhdgiphaa
open Go.ChangeShapes Go.WideShapes Go.ChangeAt Go.RowKit Go.Deep

section
variable {H : Type} {enc : TypeId × Value → H} {P : Program} {w : World} {base : Nat} {spare : Nat → Bool} {held : Bool}
/-- a slice of structs of two ints that comes in -/
theorem pairs_of {t e : TypeId} {f0 f1 : Field} {a : Option Addr} {len cap : Nat} {d : DataW H} {p : List MemPlace} (ht : P.underlying t = some (.slice e)) (he : P.underlying e = some (.struct #[f0, f1])) (hc : P.cellsOf e = 2)
    (o0 : f0.offset = 0) (o1 : f1.offset = 1) (t0 : P.underlying f0.type = some (.int .i64)) (t1 : P.underlying f1.type = some (.int .i64))
    (c0 : P.cellsOf f0.type = 1) (c1 : P.cellsOf f1.type = 1)
    (h : DataW.Trod enc P w base (fun _ => true) held t (.slice a len cap) d p) :
    ∃ xs : List (Int × Int), xs.length = len ∧ len ≤ cap ∧ cap ≤ maxLen ∧
      (∀ k, k < xs.length → ∃ b off, a = some ⟨b, off, none⟩ ∧ b < w.heap.size ∧ ∀ (k : Nat) (x : Int × Int), xs[k]? = some x →
        w.cell? ⟨b, off + k * 2, none⟩ = some (.int .i64 x.1) ∧ w.cell? ⟨b, off + k * 2 + 1, none⟩ = some (.int .i64 x.2)) ∧
      ∀ x ∈ xs, (-9223372036854775808 ≤ x.1 ∧ x.1 ≤ 9223372036854775807) ∧ (-9223372036854775808 ≤ x.2 ∧ x.2 ≤ 9223372036854775807) := by
  obtain ⟨fuel, hf⟩ := h
  rcases open_slice ht hf with ⟨hcs, _⟩ | ⟨a', len', cap', m, n, D, Pl, hcs, _, hl, hm, hmm, _, hx⟩
  · simp [Value.cells] at hcs
    obtain ⟨rfl, rfl, rfl⟩ := hcs
    exact ⟨[], rfl, Nat.le_refl _, by unfold maxLen; omega, fun k hk => absurd hk (by simp), by simp⟩
  · simp [Value.cells] at hcs
    obtain ⟨rfl, rfl, rfl⟩ := hcs
    simp only [if_true] at hmm
    subst hmm
    rw [hc] at hx
    obtain ⟨xs, hxl, hxs⟩ := list_of len (fun i (x : Int × Int) => (w.cell? (a'.add (i * 2)) = some (.int .i64 x.1) ∧ w.cell? ((a'.add (i * 2)).add 1) = some (.int .i64 x.2)) ∧
        (-9223372036854775808 ≤ x.1 ∧ x.1 ≤ 9223372036854775807) ∧ (-9223372036854775808 ≤ x.2 ∧ x.2 ≤ 9223372036854775807)) (fun i hi => by
      obtain ⟨cs', h1, h2⟩ := hx i (by omega)
      obtain ⟨_, hcl, hat⟩ := World.cells?_some h1
      obtain ⟨y0, y1, n', _, _, g0, g1⟩ := trod_struct2 he h2
      match cs', hcl with
      | [v0, v1], _ =>
        rw [o0, c0] at g0
        rw [o1, c1] at g1
        obtain ⟨q0, e0, _, w0⟩ := DataW.trod_int t0 g0
        obtain ⟨q1, e1, _, w1⟩ := DataW.trod_int t1 g1
        simp at e0 e1
        subst e0 e1
        refine ⟨(q0, q1), ⟨?_, ?_⟩, wf_bd w0, wf_bd w1⟩
        · have := hat 0 (by omega)
          simpa [Addr.add] using this
        · simpa using hat 1 (by omega))
    refine ⟨xs, hxl, hl, hm, fun k hk => ?_, fun x hx => ?_⟩
    · have h0 := (hxs 0 _ (List.getElem?_eq_getElem (by omega))).1.1
      have ha := spot_none (a := a') (by simpa [Addr.add] using h0)
      rw [ha]
      rw [ha, add_plain] at h0
      refine ⟨a'.block, a'.off, rfl, cell_lt h0, fun k x hx => ?_⟩
      have := (hxs k x hx).1
      rw [ha, add_plain, add_plain] at this
      exact this
    · obtain ⟨i, hi, he⟩ := List.getElem_of_mem hx
      exact (hxs i x (by rw [List.getElem?_eq_getElem hi, he])).2
end
end Go.Proofs.Ytjndmehhdgiphaa
