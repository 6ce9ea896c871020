/- shop: a row of parts in memory. -/
import Derived.Test.YtjndmehhdgiphaaMcM
import Derived.Test.YtjndmehhdgiphaaOwnB
namespace Go.Proofs.Ytjndmehhdgiphaa
open Go.RowKit McM

/-- a slice of structs of four ints reads as a list -/
def QuadAt (w : World) (A : Option Addr) (ps : List Quad) : Prop :=
  ∀ k, k < ps.length → ∃ b off, A = some ⟨b, off, none⟩ ∧ b < w.heap.size ∧ ∀ (k : Nat) (x : Quad), ps[k]? = some x →
    w.cell? ⟨b, off + k * 4, none⟩ = some (.int .i64 x.1) ∧ w.cell? ⟨b, off + k * 4 + 1, none⟩ = some (.int .i64 x.2.1) ∧ w.cell? ⟨b, off + k * 4 + 2, none⟩ = some (.int .i64 x.2.2.1) ∧ w.cell? ⟨b, off + k * 4 + 3, none⟩ = some (.int .i64 x.2.2.2)
theorem QuadAt.same {w wr : World} {A : Option Addr} {ps : List Quad} (h : QuadAt w A ps) (hs : w.Since w.heap.size wr) : QuadAt wr A ps := fun k hk => by
  obtain ⟨b, off, hA, hb, hc⟩ := h k hk
  have := hs.size
  refine ⟨b, off, hA, by omega, fun i x hx => ?_⟩
  obtain ⟨h1, h2, h3, h4⟩ := hc i x hx
  rw [hs.cell (show b < _ from hb), hs.cell (show b < _ from hb), hs.cell (show b < _ from hb), hs.cell (show b < _ from hb)]
  exact ⟨h1, h2, h3, h4⟩
theorem info_quad : (Try.prog.info? 49).map (fun i => (i.zero, i.size, i.bytes)) = some (some (.agg #[.int .i64 0, .int .i64 0, .int .i64 0, .int .i64 0]), 4, 32) := by kernel_rfl
def quadV (x : Quad) : List Value := [.int .i64 x.1, .int .i64 x.2.1, .int .i64 x.2.2.1, .int .i64 x.2.2.2]
def quadsV (ps : List Quad) : List Value := ps.flatMap quadV
theorem quadsV_len (ps : List Quad) : (quadsV ps).length = ps.length * 4 := by
  unfold quadsV
  induction ps with
  | nil => rfl
  | cons p o ih => rw [List.flatMap_cons, List.length_append, ih]; simp [quadV]; omega
theorem quadsV_snoc (ps : List Quad) (x : Quad) : quadsV (ps ++ [x]) = quadsV ps ++ quadV x := by simp [quadsV]
theorem quadsV_at {ps : List Quad} {k : Nat} {x : Quad} (h : ps[k]? = some x) : (quadsV ps)[k * 4]? = some (.int .i64 x.1) ∧ (quadsV ps)[k * 4 + 1]? = some (.int .i64 x.2.1) ∧ (quadsV ps)[k * 4 + 2]? = some (.int .i64 x.2.2.1) ∧ (quadsV ps)[k * 4 + 3]? = some (.int .i64 x.2.2.2) := by
  obtain ⟨hk, hx⟩ := List.getElem?_eq_some_iff.1 h
  have e : ps = ps.take k ++ x :: ps.drop (k + 1) := by rw [← hx, List.getElem_cons_drop, List.take_append_drop]
  have e2 : quadsV ps = quadsV (ps.take k) ++ (quadV x ++ quadsV (ps.drop (k + 1))) := by
    conv => lhs; rw [e]
    simp [quadsV]
  have hl : (quadsV (ps.take k)).length = k * 4 := by rw [quadsV_len, List.length_take]; congr 1; omega
  rw [e2]
  have hg : ∀ j (v : Value), (quadV x ++ quadsV (ps.drop (k + 1)))[j]? = some v → (quadsV (ps.take k) ++ (quadV x ++ quadsV (ps.drop (k + 1))))[k * 4 + j]? = some v := fun j v hv => by
    rw [List.getElem?_append_right (by omega), hl, show k * 4 + j - k * 4 = j by omega]
    exact hv
  exact ⟨hg 0 _ rfl, hg 1 _ rfl, hg 2 _ rfl, hg 3 _ rfl⟩
theorem own_quads {w : World} {base n : Nat} {v : Value} {ps : List Quad} (h : w.ownsRow base 49 4 v n (quadsV ps)) {A : Option Addr} {cap : Nat} (hv : v = .slice A n cap) : QuadAt w A ps := fun k hk => by
  have hl := h.1
  rw [quadsV_len] at hl
  obtain ⟨g, cap', hv', _, hg, _, _, hc, _⟩ := own_at h (by omega)
  rw [hv] at hv'
  injection hv' with e1 _ _
  subst e1
  refine ⟨g, 0, rfl, hg, fun k x hx => ?_⟩
  obtain ⟨h1, h2, h3, h4⟩ := quadsV_at hx
  rw [Nat.zero_add]
  exact ⟨hc _ _ h1, hc _ _ h2, hc _ _ h3, hc _ _ h4⟩
theorem quad_new (w : World) (a b c d : Value) (t : TypeId) : ∀ (j : Nat) (x : Value), [a, b, c, d][j]? = some x → (w.alloc (.cells #[a, b, c, d] t)).cell? ((⟨w.heap.size, 0, none⟩ : Addr).add j) = some x := by
  intro j x hx
  rw [show (⟨w.heap.size, 0, none⟩ : Addr).add j = ⟨w.heap.size, j, none⟩ by unfold Addr.add; split <;> simp_all, World.cell?_alloc_at _ _ _ _ rfl]
  simpa using hx
end Go.Proofs.Ytjndmehhdgiphaa
