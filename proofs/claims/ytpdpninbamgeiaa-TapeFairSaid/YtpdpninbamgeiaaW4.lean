/- tape: a clock is a heap. -/
import Derived.Test.YtpdpninbamgeiaaW3
import Derived.Test.YtpdpninbamgeiaaHeapW
namespace Go.Proofs.Ytpdpninbamgeiaa
open Go.RowKit HeapM

/-- a clock that holds l, reached from w0 by its methods -/
def Clk (w0 : World) (base p : Nat) (v0 : Value) (W : World) (l : List Int) : Prop := ∃ v, ClkAt W base p v l ∧ Keeps w0 W p v0 v
def valC (x : Int) : Value := .iface 3 (.int .i64 x)
theorem enters36 : Enters 36 := fun args w => by kernel_rfl
theorem enters10 : Enters 10 := fun args w => by kernel_rfl
theorem enters37 : Enters 37 := fun args w => by kernel_rfl
theorem enters39 : Enters 39 := fun args w => by kernel_rfl
theorem enters38 : Enters 38 := fun args w => by kernel_rfl
theorem clk_heap {w0 : World} {base p : Nat} {v0 : Value} (hB : base ≤ w0.heap.size) (hp : p < w0.heap.size) : HeapI 45 (.pointer (some ⟨p, 0, none⟩)) lt 0 valC (Clk w0 base p v0) where
  less := fun W l i k ⟨v, hC, hK⟩ hi hk => by
    obtain ⟨A, c, rfl, _, _⟩ := hC.row.form
    refine ⟨36, _, m_less hC.cell, enters36, (less_any (hC.row.ints rfl) hi hk).mono ?_⟩
    rintro e w' ⟨rfl, n, rfl⟩
    exact ⟨rfl, _, hC.drewN n, hK.drewN n⟩
  swap := fun W l i k ⟨v, hC, hK⟩ hi hk => by
    refine ⟨37, _, m_swap hC.cell, enters37, (swap_any hC hi hk).mono ?_⟩
    rintro e w' ⟨rfl, hC2, hK2⟩
    exact ⟨rfl, _, hC2, hK.trans hK2⟩
  len := fun W l ⟨v, hC, hK⟩ => by
    obtain ⟨A, c, rfl, _, _⟩ := hC.row.form
    refine ⟨10, _, m_len hC.cell, enters10, len_any.mono ?_⟩
    rintro e w' ⟨rfl, rfl⟩
    exact ⟨rfl, _, hC, hK⟩
  push := fun W l x ⟨v, hC, hK⟩ hn => by
    refine ⟨39, _, m_push p W, enters39, (push_m hC (Nat.le_trans hB hK.size) (Nat.lt_of_lt_of_le hp hK.size) x (by omega)).mono ?_⟩
    rintro e w' ⟨rfl, v', hC2, hK2⟩
    exact ⟨rfl, _, hC2, hK.trans hK2⟩
  pop := fun W l x ⟨v, hC, hK⟩ => by
    refine ⟨38, _, m_pop p W, enters38, (pop_m hC).mono ?_⟩
    rintro e w' ⟨rfl, v', hC2, hK2⟩
    exact ⟨rfl, _, hC2, hK.trans hK2⟩
/-- heap.Push -/
theorem Push_any {base p : Nat} {v : Value} {l : List Int} {w : World} (h : ClkAt w base p v l) (hH : Heap lt 0 l.length l) (hB : base ≤ w.heap.size) (hp : p < w.heap.size) (x : Int) (hn : l.length ≤ 1000000) :
    Calls Try.prog 9 #[.iface 45 (.pointer (some ⟨p, 0, none⟩)), .iface 3 (.int .i64 x)] w fun e w' => e = .returned (.tuple #[]) ∧ ∃ v' l', ClkAt w' base p v' l' ∧ l'.Perm (l ++ [x]) ∧ Heap lt 0 l'.length l' ∧ Keeps w w' p v v' := by
  refine (push_any (clk_heap hB hp) lt_ord x (⟨v, h, Keeps.refl w p v⟩ : Clk w base p v w l) hH hn).mono ?_
  rintro e w' ⟨rfl, l', ⟨v', h1, h2⟩, h3, h4⟩
  exact ⟨rfl, v', l', h1, h3, h4, h2⟩
/-- heap.Pop -/
theorem Pop_any {base p : Nat} {v : Value} {l : List Int} {w : World} (h : ClkAt w base p v l) (hH : Heap lt 0 l.length l) (hB : base ≤ w.heap.size) (hp : p < w.heap.size) (h0 : 0 < l.length) (hn : l.length ≤ 1000000) :
    Calls Try.prog 11 #[.iface 45 (.pointer (some ⟨p, 0, none⟩))] w fun e w' => e = .returned (.iface 3 (.int .i64 (l.getD 0 0))) ∧ ∃ v' l', ClkAt w' base p v' l' ∧ l.Perm (l.getD 0 0 :: l') ∧ Heap lt 0 l'.length l' ∧ Keeps w w' p v v' := by
  refine (pop_any (clk_heap hB hp) lt_ord (m := l.length - 1) (⟨v, h, Keeps.refl w p v⟩ : Clk w base p v w l) hH (by omega) hn).mono ?_
  rintro e w' ⟨rfl, l', ⟨v', h1, h2⟩, h3, h4⟩
  exact ⟨rfl, v', l', h1, h3, h4, h2⟩
end Go.Proofs.Ytpdpninbamgeiaa
