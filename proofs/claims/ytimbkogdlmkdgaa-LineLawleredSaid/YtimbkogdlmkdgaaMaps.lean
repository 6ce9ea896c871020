/- Slices of slices of ints as they come in. (From the template XMaps.) -/
import Derived.Test.YtimbkogdlmkdgaaArgs
import Derived.SizedLaws
namespace Go.Proofs.Ytimbkogdlmkdgaa
open Go.RowKit

/-- a slice of slices of ints reads as rows -/
def MapAt (w : World) (A : Option Addr) (m : List (List Int)) : Prop :=
  ∀ k, k < m.length → ∃ b off, A = some ⟨b, off, none⟩ ∧ b < w.heap.size ∧ ∀ (i : Nat) (r : List Int), m[i]? = some r →
    ∃ A' c, w.cell? ⟨b, off + i, none⟩ = some (.slice A' r.length c) ∧ IntsAt w A' r
theorem MapAt.since {w wr : World} {A : Option Addr} {m : List (List Int)} (h : MapAt w A m) (hs : w.Since w.heap.size wr) : MapAt wr A m := fun k hk => by
  obtain ⟨b, off, hA, hb, hc⟩ := h k hk
  have := hs.size
  refine ⟨b, off, hA, by omega, fun i r hr => ?_⟩
  obtain ⟨A', c, h1, h2⟩ := hc i r hr
  exact ⟨A', c, (hs.cell (show b < w.heap.size from hb)).trans h1, h2.since (Nat.le_refl _) hs⟩

section
open Go.ChangeShapes Go.WideShapes Go.ChangeAt Go.Deep
variable {H : Type} {enc : TypeId × Value → H} {P : Program} {w : World} {base : Nat} {spare : Nat → Bool} {held : Bool}
/-- a slice's length against what its data weigh -/
theorem slice_weight {t e : TypeId} {a : Option Addr} {len cap : Nat} {d : DataW H} {p : List MemPlace} (ht : P.underlying t = some (.slice e)) (hce : P.cellsOf e = 1)
    (h : DataW.Trod enc P w base (fun _ => true) held t (.slice a len cap) d p) {B : Nat} (hB : ∀ n ∈ d.weights P t, n ≤ B) : len * P.bytesOf e ≤ B := by
  obtain ⟨fuel, hfu⟩ := h
  rcases open_slice1 ht hce hfu with ⟨hcs, _⟩ | ⟨a', len', cap', m, n, V, D, Pl, hcs, _, hl, hm, hmm, hd, hx⟩
  · simp [Value.cells] at hcs
    obtain ⟨rfl, rfl, rfl⟩ := hcs
    simp
  · simp [Value.cells] at hcs
    obtain ⟨rfl, rfl, rfl⟩ := hcs
    have hd' := congrArg Prod.fst hd
    simp only at hd'
    have := hB ((((List.range len).map D).length + ((List.range (m - len)).map fun j => D (len + j)).length) * P.bytesOf e) (by
      rw [hd']
      simp [DataW.weights, ht])
    refine Nat.le_trans ?_ this
    exact Nat.mul_le_mul_right _ (by simp)
theorem weightsAll_mem {e : TypeId} {d : DataW H} {n : Nat} (hn : n ∈ d.weights P e) : ∀ {ds : List (DataW H)}, d ∈ ds → n ∈ DataW.weightsAll P e ds
  | [], h => by simp at h
  | x :: ds, h => by
    simp only [DataW.weightsAll, List.mem_append]
    rcases List.mem_cons.1 h with rfl | h1
    · exact .inl hn
    · exact .inr (weightsAll_mem hn h1)
/-- a slice of slices of ints that comes in; no row weighs more than B -/
theorem rows_of {t e f : TypeId} {a : Option Addr} {len cap : Nat} {d : DataW H} {p : List MemPlace} (ht : P.underlying t = some (.slice e)) (he : P.underlying e = some (.slice f)) (hf : P.underlying f = some (.int .i64)) (hce : P.cellsOf e = 1) (hc : P.cellsOf f = 1)
    (h : DataW.Trod enc P w base (fun _ => true) held t (.slice a len cap) d p) {B : Nat} (hB : ∀ n ∈ d.weights P t, n ≤ B) :
    ∃ m : List (List Int), m.length = len ∧ len ≤ cap ∧ MapAt w a m ∧ (∀ r ∈ m, r.length * P.bytesOf f ≤ B) ∧ len * P.bytesOf e ≤ B := by
  have hw0 := slice_weight ht hce h hB
  obtain ⟨fuel, hfu⟩ := h
  rcases open_slice1 ht hce hfu with ⟨hcs, _⟩ | ⟨a', len', cap', m, n, V, D, Pl, hcs, _, hl, hm, hmm, hd, hx⟩
  · simp [Value.cells] at hcs
    obtain ⟨rfl, rfl, rfl⟩ := hcs
    exact ⟨[], rfl, Nat.le_refl _, fun k hk => absurd hk (by simp), by simp, by simp⟩
  · simp [Value.cells] at hcs
    obtain ⟨rfl, rfl, rfl⟩ := hcs
    simp only [if_true] at hmm
    subst hmm
    have hd' := congrArg Prod.fst hd
    simp only at hd'
    obtain ⟨xs, hxl, hxs⟩ := list_of len (fun i (r : List Int) => ∃ A' c, w.cell? (a'.add i) = some (.slice A' r.length c) ∧ IntsAt w A' r ∧ r.length * P.bytesOf f ≤ B) (fun i hi => by
      obtain ⟨h1, h2⟩ := hx i (by omega)
      have h3 := open_slice1 he hc h2
      obtain ⟨A', l', c', hV⟩ : ∃ A' l' c', V i = .slice A' l' c' := by
        rcases h3 with ⟨hcs, _⟩ | ⟨b', l', c', _, _, _, _, _, hcs, _⟩
        · simp at hcs; exact ⟨_, _, _, hcs⟩
        · simp at hcs; exact ⟨_, _, _, hcs⟩
      rw [hV] at h1 h2
      have hT : DataW.Trod enc P w base (fun _ => true) held e (.slice A' l' c') (D i) (Pl i) := ⟨n, h2⟩
      obtain ⟨r, hrl, hle, hcm, hI, _⟩ := ints_of he hf hc hT
      have hwr := slice_weight he hc hT (B := B) (fun k hk => hB k (by
        rw [hd']
        simp only [DataW.weights, ht, List.mem_cons, List.mem_append]
        exact .inr (.inl (weightsAll_mem hk (List.mem_map.2 ⟨i, List.mem_range.2 hi, rfl⟩)))))
      exact ⟨r, A', c', by rw [hrl]; exact h1, hI, by rw [hrl]; exact hwr⟩)
    refine ⟨xs, hxl, hl, fun k hk => ?_, fun x hx => ?_, hw0⟩
    · have h0 := hxs 0 _ (List.getElem?_eq_getElem (by omega))
      obtain ⟨_, _, h0, _⟩ := h0
      have ha := spot_none (a := a') (by simpa [Addr.add] using h0)
      rw [ha]
      rw [ha, add_plain] at h0
      refine ⟨a'.block, a'.off, rfl, cell_lt h0, fun k x hx => ?_⟩
      obtain ⟨A', c, h1, h2, _⟩ := hxs k x hx
      rw [ha, add_plain] at h1
      exact ⟨A', c, h1, h2⟩
    · obtain ⟨i, hi, he⟩ := List.getElem_of_mem hx
      obtain ⟨_, _, _, _, h3⟩ := hxs i x (by rw [List.getElem?_eq_getElem hi, he])
      exact h3
end
end Go.Proofs.Ytimbkogdlmkdgaa
