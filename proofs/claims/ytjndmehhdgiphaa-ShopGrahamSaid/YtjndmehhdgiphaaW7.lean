/- shop: fits (the law's own look at a plan). -/
import Derived.Test.YtjndmehhdgiphaaW6
import Derived.Test.YtjndmehhdgiphaaArgs
import Derived.Deep.DeepCutAuto
import Derived.Deep.QuietTactic
import Derived.BigQuiet
namespace Go.Proofs.Ytjndmehhdgiphaa
open Go.RowKit PermM McM

theorem own_empty (w : World) : (w.alloc (.cells #[] 3)).ownsRow w.heap.size 3 1 (.slice (some ⟨w.heap.size, 0, none⟩) 0 0) 0 [] :=
  ⟨rfl, .inr ⟨w.heap.size, 0, #[], rfl, Nat.le_refl _, heap_alloc_new w _, Nat.le_refl _, by unfold maxLen; omega, rfl, rfl⟩⟩
theorem pSum_snoc {ps : List Quad} {k : Nat} {x : Quad} (h : ps[k]? = some x) (j : Int) : pSum (ps.take (k + 1)) j = pSum (ps.take k) j + if job x = j then to' x - fr x else 0 := by
  rw [take_snoc' h, pSum_append]
  show _ + ((if job x = j then to' x - fr x else 0) + 0) = _
  omega
/-- what is left of each job after k parts -/
def leftF (l : List Int) (ps : List Quad) (k : Nat) (f0 : Nat → Value) (j : Nat) : Value := if j < l.length then .int .i64 (l.getD j 0 - pSum (ps.take k) j) else f0 j
structure FitsIn (l : List Int) (M E : Int) (ps : List Quad) : Prop where
  ok : ∀ x ∈ l, 0 ≤ x ∧ x ≤ 1000000000
  fits : FitsOk l M E ps
theorem left_bd {l : List Int} {M E : Int} {ps : List Quad} (h : FitsIn l M E ps) {j : Nat} (hj : j < l.length) (k : Nat) : 0 ≤ l.getD j 0 - pSum (ps.take k) j ∧ l.getD j 0 - pSum (ps.take k) j ≤ 1000000000 := by
  have h0 : ∀ x ∈ ps, fr x ≤ to' x := fun x hx => (h.fits.each x hx).2.2.2.2.2.1
  have h1 := pSum_take (j := (j : Int)) h0 k
  have h2 := pSum_bd (j := (j : Int)) (ps := ps.take k) (fun x hx => h0 x (List.mem_of_mem_take hx))
  have h3 := h.fits.full j hj
  have h4 := getD_bd (B := 1000000000) (by omega) h.ok j
  omega
end Go.Proofs.Ytjndmehhdgiphaa
