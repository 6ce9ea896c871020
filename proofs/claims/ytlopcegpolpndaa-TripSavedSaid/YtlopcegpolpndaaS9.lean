/- trip: savings in a row, before and behind the sort. -/
import Derived.Test.YtlopcegpolpndaaS8
namespace Go.Proofs.Ytlopcegpolpndaa
open Go.RowKit Go.Sort Go.Lib

def savsV (l : List Sav) : List Value := l.flatMap savV
theorem savV_len (x : Sav) : (savV x).length = 3 := rfl
theorem savsV_len : ∀ l : List Sav, (savsV l).length = l.length * 3
  | [] => rfl
  | x :: l => by
    show (savV x ++ savsV l).length = _
    rw [List.length_append, savV_len, savsV_len l, List.length_cons]; omega
theorem savsV_snoc (l : List Sav) (x : Sav) : savsV (l ++ [x]) = savsV l ++ savV x := by simp [savsV]
theorem savsV_get : ∀ {l : List Sav} {i c : Nat} {x : Sav}, l[i]? = some x → c < 3 → (savsV l)[i * 3 + c]? = (savV x)[c]?
  | [], i, c, x, h, _ => by simp at h
  | y :: l, 0, c, x, h, hc => by
    simp at h; subst h
    show (savV y ++ savsV l)[0 * 3 + c]? = _
    rw [List.getElem?_append_left (by rw [savV_len]; omega), Nat.zero_mul, Nat.zero_add]
  | y :: l, i + 1, c, x, h, hc => by
    show (savV y ++ savsV l)[(i + 1) * 3 + c]? = _
    rw [List.getElem?_append_right (by rw [savV_len]; omega), savV_len, show (i + 1) * 3 + c - 3 = i * 3 + c by omega]
    exact savsV_get (by simpa using h) hc
theorem flat_savs (l : List Sav) : (flatK savV 3 l.toArray).toList = savsV l := by
  apply List.ext_getElem?
  intro t
  by_cases ht : t < l.length * 3
  · have hi : t / 3 < l.length := by omega
    have h1 := savsV_get (l := l) (i := t / 3) (c := t % 3) (List.getElem?_eq_getElem hi) (Nat.mod_lt _ (by omega))
    rw [show t / 3 * 3 + t % 3 = t by omega] at h1
    rw [h1, Array.getElem?_toList]
    have h2 : t < (flatK savV 3 l.toArray).size := by simpa using ht
    rw [Array.getElem?_eq_getElem h2, ← getElem!_pos _ t h2, get_flatK _ _ _ t (by simpa using ht)]
    have h3 : l.toArray[t / 3]! = l[t / 3] := by simp [hi]
    rw [h3]
    have h4 : t % 3 < (savV l[t / 3]).length := by rw [savV_len]; exact Nat.mod_lt _ (by omega)
    rw [List.getElem?_eq_getElem h4, getElem!_pos (savV l[t / 3]) (t % 3) h4]
  · rw [List.getElem?_eq_none (by simp; omega), List.getElem?_eq_none (by rw [savsV_len]; omega)]
section
variable {w : World} {B : Nat} {v : Value} {l : List Sav}
/-- the row, as the sort wants it -/
theorem sav_holds (h : w.ownsRow B 55 3 v l.length (savsV l)) (hl : 0 < l.length) : ∃ g cap, v = .slice (some ⟨g, 0, none⟩) l.length cap ∧ B ≤ g ∧ g < w.heap.size ∧ HoldsK savV 3 w g 0 l.toArray := by
  obtain ⟨g, cap, hv, hB, hg, _, _, hc, hf⟩ := own_at h hl
  refine ⟨g, cap, hv, hB, hg, fun j hj => ?_⟩
  rw [size_flatK] at hj
  have h2 : j < (flatK savV 3 l.toArray).size := by simpa using hj
  rw [Nat.zero_add]
  refine ⟨?_, hf j⟩
  refine hc j _ ?_
  rw [← flat_savs, Array.getElem?_toList, Array.getElem?_eq_getElem h2, getElem!_pos _ j h2]; rfl
/-- behind the sort -/
theorem sav_sorted (h : w.ownsRow B 55 3 v l.length (savsV l)) {g : Nat} (hg : v.ownBlock = some g) {l' : List Sav} (hl : l'.length = l.length) (n : Nat) (os : Array Obj) :
    (sortWorldK savV 3 w g 0 n l'.toArray os).ownsRow B 55 3 v l'.length (savsV l') ∧ w.grownBy (sortWorldK savV 3 w g 0 n l'.toArray os) (some g) := by
  obtain ⟨h0, h1⟩ := h
  rcases h1 with ⟨rfl, _⟩ | ⟨g', cap, cur, rfl, hB, hg', h2, h3, h4, h5⟩
  · simp [Value.ownBlock] at hg
  simp [Value.ownBlock] at hg
  subst hg
  have hlt : g' < w.heap.size := (Array.getElem?_eq_some_iff.1 hg').1
  have hheap : (sortWorldK savV 3 w g' 0 n l'.toArray os).heap = (w.heap.modify g' (onCells (putCells id 0 (flatK savV 3 l'.toArray)))) ++ os := rfl
  refine ⟨⟨savsV_len l', .inr ⟨g', cap, putCells id 0 (flatK savV 3 l'.toArray) cur, by rw [hl], hB, ?_, by omega, h3, by simpa [putCells] using h4, ?_⟩⟩, rfl, rfl, rfl, ?_, fun k hk hne => ?_⟩
  · rw [hheap, Array.getElem?_append_left (by simpa using hlt), Array.getElem?_modify, if_pos rfl, hg']; rfl
  · rw [← flat_savs]
    apply List.ext_getElem?
    intro t
    rw [List.getElem?_take]
    split
    · rename_i ht
      have h6 : t < cur.size := by omega
      rw [Array.getElem?_toList, Array.getElem?_toList]
      simp only [putCells, Array.getElem?_mapIdx, Array.getElem?_eq_getElem h6, Option.map_some]
      have h7 : t < (flatK savV 3 l'.toArray).size := by simpa using ht
      rw [if_pos ⟨Nat.zero_le _, by omega⟩, Nat.sub_zero, Array.getElem?_eq_getElem h7, getElem!_pos _ t h7]; rfl
    · rw [List.getElem?_eq_none (by simp; omega)]
  · rw [hheap]; simp
  · rw [hheap, Array.getElem?_append_left (by simpa using hk), Array.getElem?_modify, if_neg (fun e => hne (by rw [e]))]
/-- what stands in it -/
theorem sav_cells (h : w.ownsRow B 55 3 v l.length (savsV l)) {i : Nat} {x : Sav} (hi : l[i]? = some x) : ∃ g cap, v = .slice (some ⟨g, 0, none⟩) l.length cap ∧ B ≤ g ∧ g < w.heap.size ∧
    w.cell? ⟨g, 0 + i * 3 + 0, none⟩ = some (.int .i64 x.1) ∧ w.cell? ⟨g, 0 + i * 3 + 1, none⟩ = some (.int .i64 x.2.1) ∧ w.cell? ⟨g, 0 + i * 3 + 2, none⟩ = some (.int .i64 x.2.2) := by
  have hl : 0 < l.length := by have := (List.getElem?_eq_some_iff.1 hi).1; omega
  obtain ⟨g, cap, hv, hB, hg, _, _, hc, _⟩ := own_at h hl
  refine ⟨g, cap, hv, hB, hg, ?_, ?_, ?_⟩
  · rw [Nat.zero_add]; exact hc _ _ (by rw [savsV_get hi (by omega)]; rfl)
  · rw [Nat.zero_add]; exact hc _ _ (by rw [savsV_get hi (by omega)]; rfl)
  · rw [Nat.zero_add]; exact hc _ _ (by rw [savsV_get hi (by omega)]; rfl)
end
/-- a permutation of the row's list -/
theorem perm_list {l : List Sav} {d' : Array Sav} (h : PermIn 0 l.toArray.size l.toArray d') : d'.toList.Perm l := by
  obtain ⟨h1, _, h2⟩ := h
  have e1 : d'.extract 0 l.toArray.size = d' := by rw [← h1]; simp
  have e2 : l.toArray.extract 0 l.toArray.size = l.toArray := by simp
  rw [e1, e2] at h2
  exact h2
end Go.Proofs.Ytlopcegpolpndaa
