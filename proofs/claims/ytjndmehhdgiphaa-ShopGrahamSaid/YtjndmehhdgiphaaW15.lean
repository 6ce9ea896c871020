/- shop: the machines that are spare are a heap. -/
import Derived.Test.YtjndmehhdgiphaaW14
import Derived.Test.YtjndmehhdgiphaaHeapI
namespace Go.Proofs.Ytjndmehhdgiphaa
open Go.RowKit HeapM

def Spr (w0 : World) (base p : Nat) (v0 : Value) (W : World) (l : List Pt) : Prop := ∃ v, SpAt W base p v l ∧ Keeps w0 W p v0 v
theorem enters56 : Enters 56 := fun args w => by kernel_rfl
theorem enters55 : Enters 55 := fun args w => by kernel_rfl
theorem enters57 : Enters 57 := fun args w => by kernel_rfl
theorem enters62 : Enters 62 := fun args w => by kernel_rfl
theorem enters61 : Enters 61 := fun args w => by kernel_rfl
theorem spr_heap {w0 : World} {base p : Nat} {v0 : Value} (hB : base ≤ w0.heap.size) : HeapI 57 (.pointer (some ⟨p, 0, none⟩)) ltS p0 valS (Spr w0 base p v0) where
  less := fun W l i k ⟨v, hC, hK⟩ hi hk => by
    refine ⟨56, _, m_less hC.cell, enters56, (sless_any hC hi hk).mono ?_⟩
    rintro e w' ⟨rfl, hs⟩
    exact ⟨rfl, _, hC.since hs, hK.trans (keeps_of_since hs)⟩
  swap := fun W l i k ⟨v, hC, hK⟩ hi hk => by
    refine ⟨57, _, m_swap hC.cell, enters57, (sswap_any hC hi hk).mono ?_⟩
    rintro e w' ⟨rfl, hC2, hK2⟩
    exact ⟨rfl, _, hC2, hK.trans hK2⟩
  len := fun W l ⟨v, hC, hK⟩ => by
    obtain ⟨A, c, rfl, _, _⟩ := own_form hC.row
    refine ⟨55, _, m_len hC.cell, enters55, slen_any.mono ?_⟩
    rintro e w' ⟨rfl, rfl⟩
    exact ⟨rfl, _, hC, hK⟩
  push := fun W l x ⟨v, hC, hK⟩ hn => by
    refine ⟨62, _, m_push p W, enters62, (spush_m hC (Nat.le_trans hB hK.size) x (by omega)).mono ?_⟩
    rintro e w' ⟨rfl, v', hC2, hK2⟩
    exact ⟨rfl, _, hC2, hK.trans hK2⟩
  pop := fun W l x ⟨v, hC, hK⟩ => by
    refine ⟨61, _, m_pop p W, enters61, (spop_m hC).mono ?_⟩
    rintro e w' ⟨rfl, v', hC2, hK2⟩
    exact ⟨rfl, _, hC2, hK.trans hK2⟩
/-- heap.Push -/
theorem SPush_any {base p : Nat} {v : Value} {l : List Pt} {w : World} (h : SpAt w base p v l) (hH : Heap ltS p0 l.length l) (hB : base ≤ w.heap.size) (x : Pt) (hn : l.length ≤ 1000000) :
    Calls Try.prog 27 #[.iface 57 (.pointer (some ⟨p, 0, none⟩)), valS x] w fun e w' => e = .returned (.tuple #[]) ∧ ∃ v' l', SpAt w' base p v' l' ∧ l'.Perm (l ++ [x]) ∧ Heap ltS p0 l'.length l' ∧ Keeps w w' p v v' := by
  refine (push_any (spr_heap hB) ltS_ord x (⟨v, h, Keeps.refl w p v⟩ : Spr w base p v w l) hH hn).mono ?_
  rintro e w' ⟨rfl, l', ⟨v', h1, h2⟩, h3, h4⟩
  exact ⟨rfl, v', l', h1, h3, h4, h2⟩
/-- heap.Pop -/
theorem SPop_any {base p : Nat} {v : Value} {l : List Pt} {w : World} (h : SpAt w base p v l) (hH : Heap ltS p0 l.length l) (hB : base ≤ w.heap.size) (h0 : 0 < l.length) (hn : l.length ≤ 1000000) :
    Calls Try.prog 26 #[.iface 57 (.pointer (some ⟨p, 0, none⟩))] w fun e w' => e = .returned (valS (l.getD 0 p0)) ∧ ∃ v' l', SpAt w' base p v' l' ∧ l.Perm (l.getD 0 p0 :: l') ∧ Heap ltS p0 l'.length l' ∧ Keeps w w' p v v' := by
  refine (pop_any (spr_heap hB) ltS_ord (m := l.length - 1) (⟨v, h, Keeps.refl w p v⟩ : Spr w base p v w l) hH (by omega) hn).mono ?_
  rintro e w' ⟨rfl, l', ⟨v', h1, h2⟩, h3, h4⟩
  exact ⟨rfl, v', l', h1, h3, h4, h2⟩
/-- heap.Init -/
theorem SInit_any {base p : Nat} {v : Value} {l : List Pt} {w : World} (h : SpAt w base p v l) (hH : Heap ltS p0 l.length l) (hB : base ≤ w.heap.size) (hn : l.length ≤ 1000000) :
    Calls Try.prog 25 #[.iface 57 (.pointer (some ⟨p, 0, none⟩))] w fun e w' => e = .returned (.tuple #[]) ∧ ∃ v' l', SpAt w' base p v' l' ∧ l'.Perm l ∧ Heap ltS p0 l'.length l' ∧ Keeps w w' p v v' := by
  refine (init_any (spr_heap hB) ltS_ord (⟨v, h, Keeps.refl w p v⟩ : Spr w base p v w l) hH hn).mono ?_
  rintro e w' ⟨rfl, l', ⟨v', h1, h2⟩, h3, h4⟩
  exact ⟨rfl, v', l', h1, h3, h4, h2⟩
end Go.Proofs.Ytjndmehhdgiphaa
