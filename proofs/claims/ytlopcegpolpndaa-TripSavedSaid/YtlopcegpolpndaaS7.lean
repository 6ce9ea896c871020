/- trip: two tours made one, in memory. -/
import Derived.Test.YtlopcegpolpndaaS6
namespace Go.Proofs.Ytlopcegpolpndaa
open Go.RowKit

section
variable {w wr w' : World} {b B m n : Nat} {tr : Nat → List Nat} {sv : Int → Option Value}
theorem TMem.join {vf vk v' : Value} {f k m' : Nat} (h : TMem w wr b B m n tr sv) (hf : sv (f : Int) = some vf) (_hk : sv (k : Int) = some vk) (hfk : f ≠ k) {w1 : World}
    (hg1 : wr.grownBy w1 vf.ownBlock) (hr : w1.ownsRow B 3 1 v' (tr f ++ tr k).length (natsV3 (tr f ++ tr k))) (ho : v'.ownBlock = vf.ownBlock ∨ ∃ g, v'.ownBlock = some g ∧ wr.heap.size ≤ g)
    (hg2 : w1.grownBy w' (some b)) (hm : TMap w' b m' (updO (updO sv (f : Int) (some v')) (k : Int) none)) : TMem w w' b B m' n (SavedM.joined tr f k) (updO (updO sv (f : Int) (some v')) (k : Int) none) := by
  obtain ⟨f1, f2, f3, f4⟩ := h.row f vf hf
  have hbb : ∀ j, j < wr.heap.size → B ≤ j → some j ≠ vf.ownBlock → w'.heap[j]? = wr.heap[j]? := fun j h1 h2 h3 => by
    rw [hg2.block j (Nat.lt_of_lt_of_le h1 hg1.size) (by have := h.bB; intro e; injection e; omega)]
    exact hg1.block j h1 h3
  have hvf : ∀ g, vf.ownBlock = some g → B ≤ g := fun g hg => (f4.lt g hg).1
  have ho2 : ∀ (j : Int) (z : Value), j ≠ (f : Int) → sv j = some z → v'.ownBlock ≠ z.ownBlock := fun j z hj hz e => by
    obtain ⟨kj, rfl⟩ := h.keys j (by rw [hz]; simp)
    rcases ho with h1 | ⟨g, h1, h2⟩
    · exact h.apart (f : Int) (kj : Int) vf z (fun e => hj e.symm) hf hz (by rw [← h1]; exact e)
    · obtain ⟨_, _, _, h4⟩ := h.row kj z hz
      have := (h4.lt g (by rw [← e]; exact h1)).2
      omega
  refine ⟨⟨hg2.os.trans (hg1.os.trans h.since.os), hg2.tape.trans (hg1.tape.trans h.since.tape), hg2.output.trans (hg1.output.trans h.since.output), Nat.le_trans h.since.size (Nat.le_trans hg1.size hg2.size), fun j hj => ?_⟩, hm, h.low, h.bB, Nat.le_trans h.base (Nat.le_trans hg1.size hg2.size), fun j u hu => ?_, fun j hj => ?_, fun j hj => ?_, fun i j u z hij hu hz => ?_⟩
  · have hz := h.since.size
    have hlow := h.low
    have hbB := h.bB
    rw [hg2.block j (by have := hg1.size; omega) (by intro e; injection e; omega), hg1.block j (by omega) (fun e => by have := hvf j e.symm; omega)]
    exact h.since.block j hj
  · unfold updO at hu
    by_cases e : (j : Int) = k
    · rw [if_pos e] at hu; cases hu
    · rw [if_neg e] at hu
      have e' : j ≠ k := by omega
      by_cases e2 : (j : Int) = f
      · rw [if_pos e2] at hu
        injection hu with hu
        subst hu
        obtain rfl : j = f := by omega
        have : SavedM.joined tr j k j = tr j ++ tr k := by unfold SavedM.joined; rw [if_neg e', if_pos rfl]
        rw [this]
        exact ⟨f1, f2, by simp [f3], own_block hr (fun g hgg => hg2.block g (hr.lt g hgg).2 (by have := (hr.lt g hgg).1; have := h.bB; intro e; injection e; omega))⟩
      · rw [if_neg e2] at hu
        have e3 : j ≠ f := by omega
        have : SavedM.joined tr f k j = tr j := by unfold SavedM.joined; rw [if_neg e', if_neg e3]
        rw [this]
        obtain ⟨h1, h2, h3, h4⟩ := h.row j u hu
        refine ⟨h1, h2, h3, own_block h4 (fun g hgg => hbb g (h4.lt g hgg).2 (h4.lt g hgg).1 (fun e => ?_))⟩
        exact h.apart (j : Int) (f : Int) u vf e2 hu hf (by rw [hgg, e])
  · unfold updO at hj
    by_cases e : j = (k : Int)
    · exact ⟨k, e⟩
    · rw [if_neg e] at hj
      by_cases e2 : j = (f : Int)
      · exact ⟨f, e2⟩
      · rw [if_neg e2] at hj; exact h.keys j hj
  · unfold updO
    unfold SavedM.joined at hj
    by_cases e : j = k
    · rw [if_pos e] at hj; exact absurd rfl hj
    · rw [if_neg (by omega)]
      by_cases e2 : j = f
      · subst e2; rw [if_pos rfl]; simp
      · rw [if_neg e, if_neg e2] at hj
        rw [if_neg (by omega)]
        exact h.has j hj
  · unfold updO at hu hz
    by_cases a1 : i = (k : Int)
    · rw [if_pos a1] at hu; cases hu
    by_cases a2 : j = (k : Int)
    · rw [if_pos a2] at hz; cases hz
    rw [if_neg a1] at hu
    rw [if_neg a2] at hz
    by_cases c1 : i = (f : Int)
    · rw [if_pos c1] at hu
      injection hu with hu
      subst hu
      have c2 : j ≠ (f : Int) := fun e => hij (by rw [c1, e])
      rw [if_neg c2] at hz
      exact ho2 j z c2 hz
    · rw [if_neg c1] at hu
      by_cases c2 : j = (f : Int)
      · rw [if_pos c2] at hz
        injection hz with hz
        subst hz
        exact fun e => ho2 i u c1 hu e.symm
      · rw [if_neg c2] at hz
        exact h.apart i j u z hij hu hz
end
end Go.Proofs.Ytlopcegpolpndaa
