/- shop: Swap, Pop and Push of the machines that are spare. -/
import Derived.Test.YtjndmehhdgiphaaW13
namespace Go.Proofs.Ytjndmehhdgiphaa
open Go.RowKit HeapM

set_option maxHeartbeats 8000000 in
theorem sswap_any {base p : Nat} {v : Value} {l : List Pt} {w : World} (h : SpAt w base p v l) {i k : Nat} (hi : i < l.length) (hk : k < l.length) :
    Calls Try.prog 57 #[v, .int .i64 (i : Int), .int .i64 (k : Int)] w fun e w' => e = .returned (.tuple #[]) ∧ SpAt w' base p v (sw p0 l i k) ∧ Keeps w w' p v v := by
  obtain ⟨g, c, rfl, hg, hgl, hlc, _, hc, hf⟩ := own_at h.row (by omega)
  have hgp : g ≠ p := fun e => h.ne (by simp [Value.ownBlock, e])
  obtain ⟨i1, i2⟩ := ptsV_get (List.getElem?_eq_getElem hi)
  obtain ⟨k1, k2⟩ := ptsV_get (List.getElem?_eq_getElem hk)
  have c1 := hc _ _ i1
  have c2 := hc _ _ i2
  have d1 := hc _ _ k1
  have d2 := hc _ _ k2
  have f1 := hf (i * 2)
  have f2 := hf (i * 2 + 1)
  have f3 := hf (k * 2)
  have f4 := hf (k * 2 + 1)
  have e1 : l.getD i p0 = l[i] := by rw [List.getD_eq_getElem?_getD, List.getElem?_eq_getElem hi]; rfl
  have e2 : l.getD k p0 = l[k] := by rw [List.getD_eq_getElem?_getD, List.getElem?_eq_getElem hk]; rfl
  have hsw : sw p0 l i k = (l.set i l[k]).set k l[i] := by unfold sw; rw [e1, e2]
  have hiz : (i : Int) < (l.length : Int) := by omega
  have hkz : (k : Int) < (l.length : Int) := by omega
  rw [hsw]
  have H := Lib.hid h
  have Hsame : Hid (i = k → l[i] = l[k]) := Lib.hid (fun e => by subst e; rfl)
  clear h hc hf e1 e2 hsw i1 i2 k1 k2
  obtain ⟨x, hx⟩ : ∃ x, x = l[i] := ⟨_, rfl⟩
  obtain ⟨y, hy⟩ : ∃ y, y = l[k] := ⟨_, rfl⟩
  rw [← hx] at c1 c2 Hsame ⊢
  rw [← hy] at d1 d2 Hsame ⊢
  clear hx hy
  obtain ⟨x1, x2⟩ := x
  obtain ⟨y1, y2⟩ := y
  simp only at c1 c2 d1 d2
  have fin : ∀ W' : World, W' = ((((w.setCell ⟨g, i * 2, none⟩ (.int .i64 y1)).setCell ⟨g, i * 2 + 1, none⟩ (.int .i64 y2)).setCell ⟨g, k * 2, none⟩ (.int .i64 x1)).setCell ⟨g, k * 2 + 1, none⟩ (.int .i64 x2)).drew → SpAt W' base p (.slice (some ⟨g, 0, none⟩) l.length c) ((l.set i (y1, y2)).set k (x1, x2)) ∧ Keeps w W' p (.slice (some ⟨g, 0, none⟩) l.length c) (.slice (some ⟨g, 0, none⟩) l.length c) := fun W' e => by
    subst e
    refine ⟨⟨?_, ?_, ?_, H.out.ne⟩, ((((keeps_row _).trans (keeps_row _)).trans (keeps_row _)).trans (keeps_row _)).drewN 1⟩
    · show World.cell? (World.setCell _ _ _) _ = _
      rw [World.cell?_setCell_other _ _ _ _ (by simp), World.cell?_setCell_other _ _ _ _ (by simp), World.cell?_setCell_other _ _ _ _ (by simp), World.cell?_setCell_other _ _ _ _ (by simp)]
      exact H.out.cell
    · show World.frozen? (World.setCell _ _ _) _ = false
      rw [World.frozen?_setCell, World.frozen?_setCell, World.frozen?_setCell, World.frozen?_setCell]; exact H.out.fz
    · have r1 := own_set (own_set H.out.row (g := g) rfl (i * 2) (.int .i64 y1)) (g := g) rfl (i * 2 + 1) (.int .i64 y2)
      have r2 := own_set (own_set r1 (g := g) rfl (k * 2) (.int .i64 x1)) (g := g) rfl (k * 2 + 1) (.int .i64 x2)
      rw [show ((ptsV l).set (i * 2) (Value.int .i64 y1)).set (i * 2 + 1) (.int .i64 y2) = ptsV (l.set i (y1, y2)) from ptsV_set l i (y1, y2) hi,
        show ((ptsV (l.set i (y1, y2))).set (k * 2) (Value.int .i64 x1)).set (k * 2 + 1) (.int .i64 x2) = ptsV ((l.set i (y1, y2)).set k (x1, x2)) from ptsV_set (l.set i (y1, y2)) k (x1, x2) (by simpa using hk)] at r2
      have hl2 : ((l.set i (y1, y2)).set k (x1, x2)).length = l.length := by simp
      rw [hl2]
      exact own_block r2 (fun _ _ => rfl)
  have Fin := Lib.hid fin
  clear fin
  have hcl : w.cell? ⟨p, 0, none⟩ = some (.slice (some ⟨g, 0, none⟩) l.length c) := H.out.cell
  by_cases hik : i = k
  · obtain ⟨rfl, rfl⟩ : x1 = y1 ∧ x2 = y2 := by have := Hsame.out hik; simp only [Prod.mk.injEq] at this; exact this
    subst hik
    clear hcl Hsame hgp
    go_enter Try.func57, Try.ntmps57
    go_region
    all_goals
      go_wp2
      go_end0
      exact ⟨rfl, Fin.out _ rfl⟩
  · have n1 : ¬ k = i := fun e => hik e.symm
    have n2 : ¬ i * 2 = k * 2 := by omega
    have n3 : ¬ k * 2 = i * 2 := by omega
    have n4 : ¬ i * 2 + 1 = k * 2 := by omega
    have n5 : ¬ k * 2 = i * 2 + 1 := by omega
    have n6 : ¬ i * 2 = k * 2 + 1 := by omega
    have n7 : ¬ k * 2 + 1 = i * 2 := by omega
    clear hcl Hsame hgp
    go_enter Try.func57, Try.ntmps57
    go_region
    all_goals
      go_wp2
      go_end0
      exact ⟨rfl, Fin.out _ rfl⟩
theorem own_init {w : World} {base n size : Nat} {e : TypeId} {v : Value} {xs ys : List Value} (h : w.ownsRow base e size v (n + 1) (xs ++ ys)) (hx : xs.length = n * size) :
    ∃ g cap, v = .slice (some ⟨g, 0, none⟩) (n + 1) cap ∧ w.ownsRow base e size (.slice (some ⟨g, 0, none⟩) n cap) n xs := by
  rcases h.2 with ⟨_, h0⟩ | ⟨g, cap, cur, hv, hb, hg, h1, h2, h3, h4⟩
  · omega
  · refine ⟨g, cap, hv, hx, .inr ⟨g, cap, cur, rfl, hb, hg, by omega, h2, h3, ?_⟩⟩
    have : (cur.toList.take ((n + 1) * size)).take (n * size) = (xs ++ ys).take (n * size) := by rw [h4]
    rw [List.take_take, ← hx, List.take_left', Nat.min_eq_left (by rw [hx]; exact Nat.mul_le_mul_right _ (by omega))] at this
    · rw [← hx]; exact this
    · rfl
def SPopPost (w : World) (base p : Nat) (v : Value) (l : List Pt) (x : Pt) (e : Ending) (w' : World) : Prop := e = .returned (valS x) ∧ ∃ v', SpAt w' base p v' l ∧ Keeps w w' p v v'
set_option maxHeartbeats 4000000 in
theorem spop_m {base p : Nat} {v : Value} {l : List Pt} {x : Pt} {w : World} (h : SpAt w base p v (l ++ [x])) :
    Calls Try.prog 61 #[.pointer (some ⟨p, 0, none⟩)] w (SPopPost w base p v l x) := by
  have hl : (l ++ [x]).length = l.length + 1 := by simp
  have hrow := h.row
  rw [hl, ptsV_snoc] at hrow
  obtain ⟨g, c, rfl, hI⟩ := own_init hrow (ptsV_len l)
  obtain ⟨g', c', hv', hgb, hgl, hlc, hcm, hcc, _⟩ := own_at hrow (by omega)
  injection hv' with hv1 _ hv3
  injection hv1 with hv1
  injection hv1 with hv1
  subst hv1 hv3
  have x1 := hcc (l.length * 2) (.int .i64 x.1) (by rw [List.getElem?_append_right (by rw [ptsV_len]; omega), ptsV_len, Nat.sub_self]; rfl)
  have x2 := hcc (l.length * 2 + 1) (.int .i64 x.2) (by rw [List.getElem?_append_right (by rw [ptsV_len]; omega), ptsV_len, show l.length * 2 + 1 - l.length * 2 = 1 by omega]; rfl)
  have hc := h.cell
  have hf := h.fz
  have hgp : g ≠ p := fun e => h.ne (by simp [Value.ownBlock, e])
  have hpl := World.block_lt_of_cell? _ _ hc
  have hpl' : p < w.heap.size := hpl
  have HI := Lib.hid hI
  clear hI h hrow hcc
  obtain ⟨n, hn⟩ : ∃ n, n = l.length := ⟨_, rfl⟩
  rw [← hn] at hlc hc HI x1 x2 ⊢
  have hgpH := Lib.hid hgp
  have hnH := Lib.hid hn
  have Hc := Lib.hid hc
  have Hf := Lib.hid hf
  clear hgp hn hl
  have hi1 : ((n + 1 : Nat) : Int) - 1 = (n : Int) := by omega
  have hnb : n + 1 ≤ 9223372036854775807 := by unfold maxLen at hcm; omega
  have hnc : n ≤ c := by omega
  obtain ⟨xa, xb⟩ := x
  simp only at x1 x2
  go_enter Try.func61, Try.ntmps61
  go_wp2
  go_ret
  have hs : SpAt (w.setCell ⟨p, 0, none⟩ (.slice (some ⟨g, 0, none⟩) n c)) base p (.slice (some ⟨g, 0, none⟩) n c) l :=
    ⟨World.cell?_setCell_same _ _ _ Hc.out, by rw [World.frozen?_setCell]; exact Hf.out, own_setOther (by rw [← hnH.out]; exact HI.out) (fun e => hgpH.out (by simpa [Value.ownBlock] using e)) _, fun e => hgpH.out (by simpa [Value.ownBlock] using e)⟩
  exact ⟨rfl, .slice (some ⟨g, 0, none⟩) n c, hs.since ((World.Since.refl _ _).alloc (Nat.le_refl _) _), (keeps_set w p (.slice (some ⟨g, 0, none⟩) (n + 1) c) (.slice (some ⟨g, 0, none⟩) n c) _ (.inl rfl)).trans (keeps_alloc _ _ _ _)⟩
theorem taS (x : Pt) (w : World) : (Instr.typeAssert (valS x) 20 55 false).run Try.prog w = .ok (.agg #[.int .i64 x.1, .int .i64 x.2]) w := by unfold valS; kernel_rfl
theorem infoS : (Try.prog.info? 55).map (fun i => (i.zero, i.size, i.bytes)) = some (some (.agg #[.int .i64 0, .int .i64 0]), 2, 16) := by kernel_rfl
def SPushPost (w : World) (base p : Nat) (v : Value) (l : List Pt) (e : Ending) (w' : World) : Prop := e = .returned (.tuple #[]) ∧ ∃ v', SpAt w' base p v' l ∧ Keeps w w' p v v'
theorem since_likeS {w W W' : World} {B : Nat} (h : w.Since B W) (h1 : W'.os = W.os) (h2 : W'.tape = W.tape) (h3 : W'.output = W.output) (h4 : W'.heap = W.heap) : w.Since B W' :=
  ⟨by rw [h1]; exact h.os, by rw [h2]; exact h.tape, by rw [h3]; exact h.output, by rw [h4]; exact h.size, fun k hk => by rw [h4]; exact h.block k hk⟩
/-- a new value of the variable, its row grown -/
theorem sp_grown {w W w8 : World} {base p : Nat} {v v8 : Value} {l l8 : List Pt} (h : SpAt w base p v l) (hs : w.Since w.heap.size W) (hg : W.grownBy w8 v.ownBlock) (ho : v.ownBlock = v8.ownBlock ∨ v8.ownBlock = some W.heap.size)
    (hr : w8.ownsRow base 55 2 v8 l8.length (ptsV l8)) : SpAt (w8.setCell ⟨p, 0, none⟩ v8) base p v8 l8 ∧ Keeps w (w8.setCell ⟨p, 0, none⟩ v8) p v v8 := by
  have hp := World.block_lt_of_cell? _ _ h.cell
  have hpW : p < W.heap.size := Nat.lt_of_lt_of_le hp hs.size
  have hb := hg.block p hpW (fun e => h.ne e.symm)
  have hW := h.since hs
  have hne : v8.ownBlock ≠ some p := by
    rcases ho with h1 | h1
    · rw [← h1]; exact h.ne
    · rw [h1]; intro e; injection e with e; omega
  have c8 : w8.cell? ⟨p, 0, none⟩ = some v := by rw [World.cell?_of_block (w := W) (a := ⟨p, 0, none⟩) hb]; exact hW.cell
  have z8 : w8.frozen? ⟨p, 0, none⟩ = false := by rw [World.frozen?_of_block (w := W) (a := ⟨p, 0, none⟩) hb]; exact hW.fz
  refine ⟨⟨World.cell?_setCell_same _ _ _ c8, by rw [World.frozen?_setCell]; exact z8, own_setOther hr hne _, hne⟩, ?_⟩
  have k1 : Keeps w W p v v := keeps_of_since hs
  have k2 : Keeps W w8 p v v8 := grown_keeps hg (ho.imp_left Eq.symm)
  exact (k1.trans k2).trans (keeps_set w8 p v8 v8 v8 (.inl rfl))
set_option maxHeartbeats 4000000 in
theorem spush_m {base p : Nat} {v : Value} {l : List Pt} {w : World} (h : SpAt w base p v l) (hB : base ≤ w.heap.size) (x : Pt) (hn : l.length ≤ 1000000000) :
    Calls Try.prog 62 #[.pointer (some ⟨p, 0, none⟩), valS x] w (SPushPost w base p v (l ++ [x])) := by
  have hc := h.cell
  have hf := h.fz
  have H := Lib.hid h
  obtain ⟨i0, hi0, hz0, hz1, hz2⟩ := info_parts infoS
  have Hi0 := Lib.hid hi0
  have Hz0 := Lib.hid hz0
  have Hz1 := Lib.hid hz1
  have Hz2 := Lib.hid hz2
  clear hi0 hz0 hz1 hz2
  have hta := fun w => taS x w
  have hp : p < w.heap.size := World.block_lt_of_cell? _ _ hc
  obtain ⟨x1, x2⟩ := x
  simp only at hta
  have sA : w.Since w.heap.size (w.alloc (.cells #[.int .i64 x1, .int .i64 x2] 55)) := (World.Since.refl _ _).alloc (Nat.le_refl _) _
  have oA : (w.alloc (.cells #[.int .i64 x1, .int .i64 x2] 55)).ownsRow base 55 2 v l.length (ptsV l) := h.row.alloc _
  have HsA : Hid (∀ W : World, W.os = (w.alloc (.cells #[.int .i64 x1, .int .i64 x2] 55)).os → W.tape = (w.alloc (.cells #[.int .i64 x1, .int .i64 x2] 55)).tape → W.output = (w.alloc (.cells #[.int .i64 x1, .int .i64 x2] 55)).output → W.heap = (w.alloc (.cells #[.int .i64 x1, .int .i64 x2] 55)).heap → w.Since w.heap.size W) := Lib.hid (fun W h1 h2 h3 h4 => since_likeS sA h1 h2 h3 h4)
  have HoA : Hid (∀ W : World, W.heap = (w.alloc (.cells #[.int .i64 x1, .int .i64 x2] 55)).heap → W.ownsRow base 55 2 v l.length (ptsV l)) := Lib.hid (fun W h1 => own_block oA (fun g _ => by rw [h1]))
  have HnA : Hid (∀ W : World, W.heap = (w.alloc (.cells #[.int .i64 x1, .int .i64 x2] 55)).heap → ∀ (j : Nat) (u : Value), [Value.int .i64 x1, .int .i64 x2][j]? = some u → W.cell? ((⟨w.heap.size, 0, none⟩ : Addr).add j) = some u) := Lib.hid (fun W h1 j u hu => by
    rw [World.cell?_of_block (w := w.alloc (.cells #[.int .i64 x1, .int .i64 x2] 55)) (by rw [h1])]
    rw [show (⟨w.heap.size, 0, none⟩ : Addr).add j = ⟨w.heap.size, j, none⟩ by unfold Addr.add; split <;> simp_all, World.cell?_alloc_at _ _ _ _ rfl]
    match j with
    | 0 => simpa using hu
    | 1 => simpa using hu
    | j + 2 => simp at hu)
  have HbA : Hid (∀ W : World, W.heap = (w.alloc (.cells #[.int .i64 x1, .int .i64 x2] 55)).heap → base ≤ W.heap.size) := Lib.hid (fun W h1 => by rw [h1]; simp; omega)
  have HgC : Hid (∀ W w8 : World, W.heap = (w.alloc (.cells #[.int .i64 x1, .int .i64 x2] 55)).heap → W.grownBy w8 v.ownBlock → w8.cell? ⟨p, 0, none⟩ = some v ∧ w8.frozen? ⟨p, 0, none⟩ = false) := Lib.hid (fun W w8 h1 hg => by
    have hp := World.block_lt_of_cell? _ _ H.out.cell
    have hp2 : p < w.heap.size := hp
    have hb : w8.heap[p]? = w.heap[p]? := by
      rw [hg.block p (by rw [h1]; simp; omega) (fun e => H.out.ne e.symm), h1]
      exact sA.block p hp2
    exact ⟨by rw [World.cell?_of_block (w := w) hb]; exact H.out.cell, by rw [World.frozen?_of_block (w := w) hb]; exact H.out.fz⟩)
  clear sA oA h
  go_enter Try.func62, Try.ntmps62
  go_region_law (refine step_append_lies _ rfl (.tmp 7) (.tmp 10) 54 rfl base 55 i0 _ 2 16 Try.underlying54 Hi0.out Hz0.out Hz1.out Hz2.out rfl (by decide) v l.length (ptsV l) (by simp [Act.eval]) (HoA.out _ (by rfl)) ⟨w.heap.size, 0, none⟩ 1 1 [Value.int .i64 x1, .int .i64 x2] (by simp [Act.eval]) rfl (HnA.out _ (by rfl)) (by intro u hu; simp at hu; rcases hu with rfl | rfl <;> rfl) (by decide) (by unfold maxLen; omega) (by omega) (HbA.out _ (by rfl)) _ rfl ?_; intro g8 c8 w8 h1 h2 h3 h4; have d12 := HgC.out _ _ (by rfl) h2; obtain ⟨d1, d2⟩ := d12; have hS8 := fun l8 v8 ho hr => sp_grown (l8 := l8) (v8 := v8) H.out (HsA.out _ (by rfl) (by rfl) (by rfl) (by rfl)) h2 ho hr; have HS8 := Lib.hid hS8; have HO8 := Lib.hid h1; have HV := Lib.hid h3; clear h1 h2 h3 h4 hS8)
  all_goals
    go_wp2
    go_end0
    have hlen : (l ++ [(x1, x2)]).length = l.length + 1 := by simp
    refine ⟨rfl, _, HS8.out (l ++ [(x1, x2)]) (.slice (some ⟨g8, 0, none⟩) (l.length + 1) c8) ?_ ?_⟩
    · exact HV.out.imp id (fun e => by rw [← e]; rfl)
    · rw [hlen, ptsV_snoc]; exact HO8.out
end Go.Proofs.Ytjndmehhdgiphaa
