/- trip: the tours' memory. -/
import Derived.Test.YtlopcegpolpndaaS5
import Derived.Test.YtlopcegpolpndaaOwnB
namespace Go.Proofs.Ytlopcegpolpndaa
open Go.RowKit

def natsV3 (l : List Nat) : List Value := l.map (fun (x : Nat) => Value.int .i64 (x : Int))
/-- the tours that stand in the map, each in a row of its own -/
structure TMem (w wr : World) (b B m n : Nat) (tr : Nat → List Nat) (sv : Int → Option Value) : Prop where
  since : w.Since w.heap.size wr
  map : TMap wr b m sv
  low : w.heap.size ≤ b
  bB : b < B
  base : B ≤ wr.heap.size
  row : ∀ (i : Nat) (v : Value), sv (i : Int) = some v → 1 ≤ i ∧ i < n ∧ tr i ≠ [] ∧ wr.ownsRow B 3 1 v (tr i).length (natsV3 (tr i))
  keys : ∀ i : Int, sv i ≠ none → ∃ k : Nat, i = (k : Int)
  has : ∀ i : Nat, tr i ≠ [] → sv (i : Int) ≠ none
  apart : ∀ (i j : Int) (u v : Value), i ≠ j → sv i = some u → sv j = some v → u.ownBlock ≠ v.ownBlock
section
variable {w wr w' : World} {b B m n : Nat} {tr : Nat → List Nat} {sv : Int → Option Value}
theorem TMem.keep (h : TMem w wr b B m n tr sv) (hs : w.Since w.heap.size w') (hm : TMap w' b m sv) (hB : B ≤ w'.heap.size) (hb : ∀ k, B ≤ k → k < wr.heap.size → w'.heap[k]? = wr.heap[k]?) : TMem w w' b B m n tr sv :=
  ⟨hs, hm, h.low, h.bB, hB, fun i v hv => by
    obtain ⟨h1, h2, h3, h4⟩ := h.row i v hv
    exact ⟨h1, h2, h3, own_block h4 (fun g hg => hb g (h4.lt g hg).1 (h4.lt g hg).2)⟩, h.keys, h.has, h.apart⟩
theorem TMem.grown {row : Option Nat} (h : TMem w wr b B m n tr sv) (hg : wr.grownBy w' row) (hr : row = none) : TMem w w' b B m n tr sv := by
  subst hr
  exact h.keep (h.since.grown hg (Nat.le_trans (Nat.le_trans h.low (Nat.le_of_lt h.bB)) h.base) (fun k hk => by cases hk)) (h.map.kept hg (by simp)) (Nat.le_trans h.base hg.size) (fun k _ hk => hg.block k hk (by simp))
/-- the slice of a tour -/
theorem TMem.form (h : TMem w wr b B m n tr sv) {i : Nat} {v : Value} (hv : sv (i : Int) = some v) : ∃ g c, v = .slice (some ⟨g, 0, none⟩) (tr i).length c ∧ B ≤ g ∧ g < wr.heap.size ∧ (tr i).length ≤ c ∧ IntsAt wr (some ⟨g, 0, none⟩) (natsZ (tr i)) := by
  obtain ⟨_, _, h3, h4⟩ := h.row i v hv
  have hl : 0 < (tr i).length := List.length_pos_iff.2 h3
  obtain ⟨g, c, rfl, h5, h6, h7, _, h8, _⟩ := own_at h4 hl
  exact ⟨g, c, rfl, h5, h6, h7, fun k hk => ⟨g, 0, rfl, h6, fun j x hx => by
    rw [Nat.zero_add]
    refine h8 j _ ?_
    unfold natsZ at hx
    unfold natsV3
    rw [List.getElem?_map] at hx ⊢
    cases hj : (tr i)[j]? with
    | none => rw [hj] at hx; simp at hx
    | some y => rw [hj] at hx; simp at hx; subst hx; rfl⟩⟩
/-- a tour is laid at a key that had none -/
theorem TMem.lay {v : Value} {i : Nat} {m' : Nat} (h : TMem w wr b B m n tr sv) (hi : 1 ≤ i ∧ i < n) (ht : tr i = []) {t : List Nat} (htn : t ≠ []) {w1 : World} (hs : wr.Since wr.heap.size w1) (hr : w1.ownsRow B 3 1 v t.length (natsV3 t)) (hnew : ∀ g, v.ownBlock = some g → wr.heap.size ≤ g)
    (hg : w1.grownBy w' (some b)) (hm : TMap w' b m' (updO sv (i : Int) (some v))) : TMem w w' b B m' n (fun x => if x = i then t else tr x) (updO sv (i : Int) (some v)) := by
  have hsn : sv (i : Int) = none := by
    cases hv : sv (i : Int) with
    | none => rfl
    | some v => exact absurd ht (h.row i v hv).2.2.1
  have hb : ∀ k, B ≤ k → k < wr.heap.size → w'.heap[k]? = wr.heap[k]? := fun k h1 h2 => by
    rw [hg.block k (Nat.lt_of_lt_of_le h2 hs.size) (by have := h.bB; intro e; injection e; omega)]
    exact hs.block k h2
  refine ⟨⟨hg.os.trans (hs.os.trans h.since.os), hg.tape.trans (hs.tape.trans h.since.tape), hg.output.trans (hs.output.trans h.since.output), Nat.le_trans h.since.size (Nat.le_trans hs.size hg.size), fun k hk => ?_⟩, hm, h.low, h.bB, Nat.le_trans h.base (Nat.le_trans hs.size hg.size), fun j u hu => ?_, fun j hj => ?_, fun j hj => ?_, fun j k u z hjk hu hz => ?_⟩
  · have hz := h.since.size
    rw [hg.block k (by have := hs.size; omega) (by have := h.low; intro e; injection e; omega), hs.block k (by omega)]
    exact h.since.block k hk
  · unfold updO at hu
    by_cases e : (j : Int) = i
    · rw [if_pos e] at hu
      injection hu with hu
      subst hu
      obtain rfl : j = i := by omega
      rw [if_pos rfl]
      exact ⟨hi.1, hi.2, htn, own_block hr (fun g hgg => hg.block g (hr.lt g hgg).2 (by have := (hr.lt g hgg).1; have := h.bB; intro e; injection e; omega))⟩
    · rw [if_neg e] at hu
      have e' : j ≠ i := by omega
      rw [if_neg e']
      obtain ⟨h1, h2, h3, h4⟩ := h.row j u hu
      exact ⟨h1, h2, h3, own_block h4 (fun g hgg => hb g (h4.lt g hgg).1 (h4.lt g hgg).2)⟩
  · unfold updO at hj
    by_cases e : j = (i : Int)
    · exact ⟨i, e⟩
    · rw [if_neg e] at hj; exact h.keys j hj
  · unfold updO
    by_cases e : j = i
    · subst e; rw [if_pos rfl]; simp
    · rw [if_neg e] at hj
      rw [if_neg (by omega)]
      exact h.has j hj
  · have low : ∀ (x : Int) (y : Value), sv x = some y → y.ownBlock ≠ v.ownBlock := fun x y hy e => by
      obtain ⟨kx, rfl⟩ := h.keys x (by rw [hy]; simp)
      obtain ⟨_, _, h3, h4⟩ := h.row kx y hy
      obtain ⟨g, c, rfl, _, hlt, _⟩ := own_at h4 (List.length_pos_iff.2 h3)
      have := hnew g (by rw [← e]; rfl)
      omega
    unfold updO at hu hz
    by_cases e1 : j = (i : Int)
    · rw [if_pos e1] at hu
      injection hu with hu
      subst hu
      rw [if_neg (by rw [← e1]; exact fun e => hjk e.symm)] at hz
      exact fun e => low k z hz e.symm
    · rw [if_neg e1] at hu
      by_cases e2 : k = (i : Int)
      · rw [if_pos e2] at hz
        injection hz with hz
        subst hz
        exact low j u hu
      · rw [if_neg e2] at hz
        exact h.apart j k u z hjk hu hz
end
end Go.Proofs.Ytlopcegpolpndaa
