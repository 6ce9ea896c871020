/- tape: container/heap over a clock: Pop, up. -/
import Derived.Test.YtpdpninbamgeiaaW2
import Derived.Deep.LoopGhost
import Derived.Deep.DeepCutAuto
namespace Go.Proofs.Ytpdpninbamgeiaa
open Go.RowKit HeapM

theorem irow_last {w : World} {base : Nat} {v : Value} {l : List Int} {x : Int} (h : IRow w base false v (l ++ [x])) : ∃ g o c, v = .slice (some ⟨g, o, none⟩) (l.length + 1) c ∧ l.length + 1 ≤ c ∧ c ≤ maxLen ∧ IRow w base false (.slice (some ⟨g, o, none⟩) l.length c) l ∧ w.cell? ⟨g, o + l.length, none⟩ = some (.int .i64 x) := by
  have hl : (l ++ [x]).length = l.length + 1 := by simp
  obtain ⟨g, o, c, e, hI⟩ := h.init (by omega)
  obtain ⟨g', o', c', e', _, _, h1, h2, h3, _⟩ := h.at (by omega)
  rw [e] at e'
  injection e' with e1 e2 e3
  injection e1 with e1
  injection e1 with e1 e4
  subst e1 e4 e3
  rw [hl] at e hI h1
  have ht : (l ++ [x]).take (l.length + 1 - 1) = l := by simp
  rw [ht] at hI
  exact ⟨g, o, c, e, h1, h2, hI, h3 l.length x (by simp)⟩
def PopPost (w : World) (base p : Nat) (v : Value) (l : List Int) (x : Int) (e : Ending) (w' : World) : Prop := e = .returned (.iface 3 (.int .i64 x)) ∧ ∃ v', ClkAt w' base p v' l ∧ Keeps w w' p v v'
theorem pop_m {base p : Nat} {v : Value} {l : List Int} {x : Int} {w : World} (h : ClkAt w base p v (l ++ [x])) :
    Calls Try.prog 38 #[.pointer (some ⟨p, 0, none⟩)] w (PopPost w base p v l x) := by
  obtain ⟨g, o, c, rfl, hlc, hcm, hI, hx⟩ := irow_last h.row
  have hc := h.cell
  have hf := h.fz
  have hgp : g ≠ p := fun e => h.ne (by simp [Value.ownBlock, e])
  have H := Lib.hid h
  clear h
  have HI := Lib.hid hI
  clear hI
  obtain ⟨n, hn⟩ : ∃ n, n = l.length := ⟨_, rfl⟩
  rw [← hn] at hlc hc hx HI ⊢
  have hgpH := Lib.hid hgp
  have hnH := Lib.hid hn
  clear hgp hn
  have hi1 : ((n + 1 : Nat) : Int) - 1 = (n : Int) := by omega
  have hnb : n + 1 ≤ 9223372036854775807 := by unfold maxLen at hcm; omega
  have hnc : n ≤ c := by omega
  go_enter Try.func38, Try.ntmps38
  go_wp2
  go_ret
  refine ⟨rfl, .slice (some ⟨g, o, none⟩) n c, ⟨World.cell?_setCell_same _ _ _ hc, ?_, HI.out.block (fun k hk => ?_), fun e => hgpH.out ?_⟩, keeps_set _ _ _ _ _ (.inl rfl)⟩
  · rw [World.frozen?_setCell]; exact hf
  · simp [Value.ownBlock] at hk
    exact Below.heap_setCell _ ⟨p, 0, none⟩ _ k (by subst hk; exact hgpH.out)
  · simpa [Value.ownBlock] using e
end Go.Proofs.Ytpdpninbamgeiaa
