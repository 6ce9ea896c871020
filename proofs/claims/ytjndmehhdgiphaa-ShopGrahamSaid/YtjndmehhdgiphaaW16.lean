/- shop: List's memory. -/
import Derived.Test.YtjndmehhdgiphaaW15
import Derived.Test.YtjndmehhdgiphaaW9
import Derived.Test.YtjndmehhdgiphaaGrahS
namespace Go.Proofs.Ytjndmehhdgiphaa
open Go.RowKit HeapM GrahM McM PermM

structure LW (w wr : World) (B p : Nat) (v : Value) (hl : List Pt) (ov : Value) (ps : List Quad) : Prop where
  since : w.Since w.heap.size wr
  low : w.heap.size ≤ p
  pB : p < B
  base : B ≤ wr.heap.size
  sp : SpAt wr B p v hl
  out : wr.ownsRow B 49 4 ov ps.length (quadsV ps)
section
variable {w wr w' : World} {B p : Nat} {v v' ov ov' : Value} {hl hl' : List Pt} {ps ps' : List Quad}
theorem LW.apart (h : LW w wr B p v hl ov ps) {g : Nat} (hg : ov.ownBlock = some g) : v.ownBlock ≠ some g := own_apart h.sp.row h.out (by decide) hg
theorem LW.keeps (h : LW w wr B p v hl ov ps) (hk : Keeps wr w' p v v') (hs : SpAt w' B p v' hl') : LW w w' B p v' hl' ov ps :=
  ⟨hk.since h.since h.low (fun k hk2 => by have := (h.sp.row.lt k hk2).1; have := h.pB; have := h.low; omega), h.low, h.pB, Nat.le_trans h.base hk.size, hs,
    own_block h.out (fun g hg => hk.block g (h.out.lt g hg).2 (by have := (h.out.lt g hg).1; have := h.pB; omega) (fun e => h.apart hg e.symm))⟩
theorem LW.later (h : LW w wr B p v hl ov ps) (hs : wr.Since wr.heap.size w') : LW w w' B p v hl ov ps :=
  ⟨since_join h.since hs, h.low, h.pB, Nat.le_trans h.base hs.size, h.sp.since hs, own_since' h.out hs⟩
theorem LW.grow {W : World} (h : LW w wr B p v hl ov ps) (hs : wr.Since wr.heap.size W) (hg : W.grownBy w' ov.ownBlock) (hr : w'.ownsRow B 49 4 ov' ps'.length (quadsV ps')) : LW w w' B p v hl ov' ps' := by
  have h2 := h.later hs
  have hp := World.block_lt_of_cell? _ _ h2.sp.cell
  have hb := hg.block p hp (fun e => by have := (h2.out.lt p e.symm).1; have := h.pB; omega)
  exact ⟨h2.since.grown hg (Nat.le_trans (Nat.le_trans h.low (Nat.le_of_lt h.pB)) h2.base) (fun k hk => by have := (h2.out.lt k hk).1; have := h.pB; have := h.low; omega), h.low, h.pB, Nat.le_trans h2.base hg.size,
    ⟨by rw [World.cell?_of_block (w := W) (a := ⟨p, 0, none⟩) hb]; exact h2.sp.cell, by rw [World.frozen?_of_block (w := W) (a := ⟨p, 0, none⟩) hb]; exact h2.sp.fz,
      own_block h2.sp.row (fun g hg2 => hg.block g (h2.sp.row.lt g hg2).2 (fun e => h2.apart e.symm hg2)), h2.sp.ne⟩, hr⟩
theorem LW.store (h : LW w wr B p v hl ov ps) {px : Nat} (h0 : w.heap.size ≤ px) (h1 : p ≠ px) (h2 : v.ownBlock ≠ some px) (h3 : ov.ownBlock ≠ some px) (i : Nat) (x : Value) : LW w (wr.setCell ⟨px, i, none⟩ x) B p v hl ov ps :=
  ⟨h.since.setCell (a := ⟨px, i, none⟩) h0 x, h.low, h.pB, by simp; exact h.base,
    ⟨by rw [World.cell?_setCell_other _ _ _ _ (by simp)]; exact h.sp.cell, by rw [World.frozen?_setCell]; exact h.sp.fz, own_setOther h.sp.row h2 x, h.sp.ne⟩, own_setOther h.out h3 x⟩
end
def mkL (k : Nat) : List Pt := (List.range k).map (fun (j : Nat) => ((0 : Int), (j : Int)))
theorem mkL_snoc (k : Nat) : mkL (k + 1) = mkL k ++ [(0, (k : Int))] := by unfold mkL; rw [List.range_succ, List.map_append]; rfl
theorem mkL_len (k : Nat) : (mkL k).length = k := by simp [mkL]
theorem mkL_heap (k : Nat) : Heap ltS p0 (mkL k).length (mkL k) := fun j hj hjn => by
  rw [mkL_len] at hjn
  have hg : ∀ i, i < k → (mkL k).getD i p0 = (0, (i : Int)) := fun i hi => by
    unfold mkL
    rw [List.getD_eq_getElem?_getD, List.getElem?_map, List.getElem?_range hi]; rfl
  rw [hg j hjn, hg ((j - 1) / 2) (by omega)]
  cases hl : ltS (0, (j : Int)) (0, (((j - 1) / 2 : Nat) : Int)) with
  | false => rfl
  | true =>
    rw [ltS_iff] at hl
    simp only at hl
    omega
def LBad (w : World) (e : Ending) (w' : World) : Prop := w = w' ∧ ∃ k : Int, e = .returned (.tuple #[.int .i64 0, .slice none 0 0, .iface 50 (.int .i64 k)])
theorem List_bad {A R : Option Addr} {cap n c : Nat} {l : List Int} {M : Int} {w : World} (h : IntsAt w A l) (hlen : l.length ≤ 9223372036854775807) (t : ¬ LensOk l M) :
    Calls Try.prog 14 #[.slice A l.length cap, .int .i64 M, .slice R n c] w (LBad w) := by
  have C1 := Lib.hid (lengths_bad (cap := cap) h hlen t)
  clear h t
  go_enter Try.func14, Try.ntmps14
  go_wp2_with fail
  refine C1.out.mono ?_
  rintro e w1 ⟨⟨k, rfl⟩, rfl⟩
  go_wp2
  go_ret3
  exact ⟨rfl, k, rfl⟩
def pL (l : List Int) (x : Nat) : Int := l.getD x 0
structure ListRes (l : List Int) (M : Nat) (r : List Nat) (E : Int) (ps : List Quad) : Prop where
  st : ∃ mu s hl, GSt (pL l) M r mu s E hl ps
def ListPost (l : List Int) (M : Nat) (r : List Nat) (w : World) (e : Ending) (w' : World) : Prop :=
  w.Since w.heap.size w' ∧ ∃ (E : Int) (ps : List Quad) (P : Option Addr) (c : Nat), e = .returned (.tuple #[.int .i64 E, .slice P ps.length c, .nilIface]) ∧ ListRes l M r E ps ∧ QuadAt w' P ps
theorem take_next {r : List Nat} {k x : Nat} (h : r[k]? = some x) : r.take (k + 1) = r.take k ++ [x] := by
  obtain ⟨hk, he⟩ := List.getElem?_eq_some_iff.1 h
  rw [List.take_succ_eq_append_getElem hk, he]
theorem gl_bd {l : List Int} (h0 : ∀ x ∈ l, 0 ≤ x ∧ x ≤ 1000000000) (mu : Nat → Int) (j : Int) : ∀ r : List Nat, 0 ≤ gl (pL l) mu r j ∧ gl (pL l) mu r j ≤ 1000000000 * (r.length : Int)
  | [] => by simp [gl]
  | x :: r => by
    have h1 := gl_bd h0 mu j r
    have h2 := getD_bd (B := 1000000000) (by omega) h0 x
    show 0 ≤ (if mu x = j then l.getD x 0 else 0) + gl (pL l) mu r j ∧ (if mu x = j then l.getD x 0 else 0) + gl (pL l) mu r j ≤ _
    rw [List.length_cons]
    split <;> omega
end Go.Proofs.Ytjndmehhdgiphaa
