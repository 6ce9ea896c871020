/- depot: beginnings of a slice of bytes; Open at each. -/
import Derived.Test.YtgahgdgpncnffaaDoorD8
import Derived.Test.YtgahgdgpncnffaaDoorD9
namespace Go.Proofs.YtgahgdgpncnffaaDoor
open Go.RowKit Go.Lib DepM Go.Sort

theorem Row.since {w w' : World} {B : Nat} {v : Value} {bs : Bs} (h : Row w B v bs) (hs : w.Since w.heap.size w') : Row w' B v bs := own_keep h (fun g hg => hs.block g (h.lt g hg).2)
theorem Open_any {w : World} (he : Env w) {B : Nat} {v : Value} {bs : Bs} (h : Row w B v bs) (hl : bs.length ≤ 100000) : Calls Tryd.prog 7 #[v] w (OpenPost w bs) := by
  rcases h.form with ⟨rfl, rfl⟩ | ⟨g, c, rfl, hc, _, hg, hb⟩
  · exact Open_nil w
  · exact Open_row he hb rfl hc hg hl
theorem slice_hi_nil (W : World) : (Instr.slice 23 (.slice none 0 0) none (some (.int .i64 ((0 : Nat) : Int))) none).run Tryd.prog W = .ok (.slice none 0 0) W := by
  rw [run_slice_h W 23 _ _ _ und23 .i64 _ (by omega) (by omega), size_u8]
  simp [Result.andThen, sliced]
theorem Row.cut {w : World} {B : Nat} {v : Value} {bs : Bs} (h : Row w B v bs) (hl : bs.length ≤ 100000) {k : Nat} (hk : k ≤ bs.length) : ∃ sv, (∀ W, (Instr.slice 23 v none (some (.int .i64 (k : Int))) none).run Tryd.prog W = .ok sv W) ∧
    (∀ W, w.Since w.heap.size W → (convert 23 9 sv).run Tryd.prog W = .ok (.string (strB (bs.take k))) W) ∧ ∀ W, w.Since w.heap.size W → Env W → Calls Tryd.prog 7 #[sv] W (OpenPost W (bs.take k)) := by
  rcases h.form with ⟨rfl, rfl⟩ | ⟨g, c, rfl, hc, _, hg, hb⟩
  · obtain rfl : k = 0 := by simpa using hk
    exact ⟨_, slice_hi_nil, fun W _ => conv_nil W 0 0, fun W _ _ => Open_nil W⟩
  · have hkl : (bs.take k).length = k := by rw [List.length_take]; omega
    refine ⟨_, fun W => slice_hi g 0 _ c k (by omega) W, fun W hW => ((hb.keep (hW.block g hg)).take k).conv k c hkl, fun W hW he => ?_⟩
    exact Open_row he ((hb.keep (hW.block g hg)).take k) hkl (by omega) (Nat.lt_of_lt_of_le hg hW.size) (by omega)
/-- a byte of a row -/
theorem Row.byte {w : World} {B : Nat} {A : Option Addr} {n c : Nat} {bs : Bs} (h : Row w B (.slice A n c) bs) {i : Nat} (hi : i < bs.length) : ∃ g, A = some ⟨g, 0, none⟩ ∧ n = bs.length ∧ n ≤ c ∧ g < w.heap.size ∧ ∀ W, w.Since w.heap.size W → W.cell? ⟨g, i, none⟩ = some (.int .u8 (bs[i].toNat : Int)) := by
  rcases h.form with ⟨h1, rfl⟩ | ⟨g, c', h1, hc, _, hg, hb⟩
  · simp at hi
  · injection h1 with h1 h2 h3
    subst h1 h2 h3
    refine ⟨g, rfl, rfl, hc, hg, fun W hW => ?_⟩
    have := hb.keep (hW.block g hg) i hi
    rwa [Nat.zero_add] at this
end Go.Proofs.YtgahgdgpncnffaaDoor
