/- path.Run: the walk up to its great loop. -/
import Derived.Test.YtekjddcckkelnaaW4
import Derived.Test.YtekjddcckkelnaaOwn
import Derived.Deep.DeepCutAuto
import Derived.Outline
namespace Go.Proofs.Ytekjddcckkelnaa
open Go.RowKit PathM

def BadPost (w : World) (e : Ending) (w' : World) : Prop := w.Since w.heap.size w' ∧ ∃ k : Int, e = .returned (.tuple #[.slice none 0 0, .iface 45 (.int .i64 k)])
set_option maxHeartbeats 2000000 in
set_option maxRecDepth 100000 in
theorem Run_bad (A : Option Addr) (cap : Nat) (js : List Job) (rule : Int) (w : World) (h : JobsAt w A js) (hlen : js.length ≤ 9223372036854775807) (hno : ¬ JobsOk js) :
    Calls Try.prog 8 #[.slice A js.length cap, .int .i64 rule] w (BadPost w) := by
  have hC : ∀ W, w.Since w.heap.size W → Calls Try.prog 14 #[.slice A js.length cap] W fun e w' => W.Since W.heap.size w' ∧ ∃ k : Int, e = .returned (.iface 45 (.int .i64 k)) := fun W hs =>
    (Check_any A cap js W (h.since (Nat.le_refl _) hs) hlen).mono fun e w' ⟨h1, c, h2, h3⟩ => by
      cases c with
      | none => exact absurd (h3.1 rfl) hno
      | some k => exact ⟨h1, k, h2⟩
  have HC := Lib.hid hC
  clear hC h
  go_enter Try.func8, Try.ntmps8
  go_wp2_with fail
  refine (HC.out _ (((World.Since.refl _ _).alloc (Nat.le_refl _) _).alloc (by simp) _)).mono ?_
  rintro e w1 ⟨hs1, k, rfl⟩
  go_wp2
  go_ret2
  exact ⟨since_join (((World.Since.refl _ _).alloc (Nat.le_refl _) _).alloc (by simp) _) hs1, k, rfl⟩

/-- a piece, as memory holds it -/
def pieceV (p : Nat × Int × Int) : List Value := [.int .i64 (p.1 : Nat), .int .i64 p.2.1, .int .i64 p.2.2]
def outV (o : List (Nat × Int × Int)) : List Value := o.flatMap pieceV
def natV (i : Nat) : Value := .int .i64 (i : Nat)
def onV : Option Nat → Int
  | none => -1
  | some i => i
def preB (rule : Int) : Bool := decide (5 ≤ rule)
/-- Run's memory -/
structure RunIs (w : World) (pl pr pf po : Nat) (rule : Int) (A : Option Addr) (cap : Nat) (js : List Job) (bl base : Nat) (left : Nat → Int) (on : Int) (wait : List Nat) (out : List (Nat × Int × Int)) (v10 v14 : Value) (wr : World) : Prop where
  since : w.Since w.heap.size wr
  vars : Vars wr pr pl pf rule A cap js bl left
  on : wr.rowIs po 3 1 (fun _ => .int .i64 on)
  wait : wr.ownsRow base 3 1 v14 wait.length (wait.map natV)
  out : wr.ownsRow base 36 3 v10 out.length (outV out)
structure Places (w : World) (pl pr pf po bl base : Nat) : Prop where
  a : w.heap.size ≤ po ∧ w.heap.size ≤ bl ∧ w.heap.size ≤ base
  b : pl < base ∧ pr < base ∧ pf < base ∧ po < base ∧ bl < base
  c : po ≠ pl ∧ po ≠ pr ∧ po ≠ pf ∧ po ≠ bl ∧ bl ≠ pl ∧ bl ≠ pr ∧ bl ≠ pf
def RunPost (js : List Job) (rule : Int) (w : World) (e : Ending) (w' : World) : Prop :=
  w.Since w.heap.size w' ∧ ∃ (s : St) (v : Value), PathM.Reach (atJ js) (szJ js) js.length (preB rule) (BestOf rule js) s ∧ ¬ (s.next < js.length ∨ s.wait ≠ []) ∧ e = .returned (.tuple #[v, .nilIface]) ∧ w'.ownsRow w.heap.size 36 3 v s.out.length (outV s.out)
theorem Jobs_of {js : List Job} (h : JobsOk js) : Jobs (atJ js) (szJ js) js.length := by
  have hmem : ∀ i, i < js.length → jobOk (js.getD i (0, 0, 0)) := fun i hi => by
    rw [List.getD_eq_getElem?_getD, List.getElem?_eq_getElem hi]; exact h.each _ (List.getElem_mem _)
  refine ⟨fun i hi => (hmem i hi).2.1.1, fun i j hij hj => ?_, fun i hi => (hmem i hi).1.1⟩
  induction j with
  | zero => obtain rfl : i = 0 := by omega
            exact Int.le_refl _
  | succ j ih =>
    by_cases e : i = j + 1
    · subst e; exact Int.le_refl _
    · have h1 := ih (by omega) (by omega)
      have h2 := h.row (j + 1) (by omega) hj
      rw [Nat.add_sub_cancel] at h2
      omega
theorem Vars.put {w : World} {pr pl pf : Nat} {rule : Int} {A : Option Addr} {cap : Nat} {js : List Job} {bl : Nat} {left : Nat → Int} (V : Vars w pr pl pf rule A cap js bl left) (i : Nat) (x : Int) (hn : bl ≠ pr ∧ bl ≠ pl ∧ bl ≠ pf)
    (hj : JobsAt (w.setCell ⟨bl, i, none⟩ (.int .i64 x)) A js) : Vars (w.setCell ⟨bl, i, none⟩ (.int .i64 x)) pr pl pf rule A cap js bl (upd left i x) := by
  have hoth : ∀ b, b ≠ bl → (w.setCell ⟨bl, i, none⟩ (.int .i64 x)).cell? ⟨b, 0, none⟩ = w.cell? ⟨b, 0, none⟩ := fun b hb => World.cell?_of_block (Below.heap_setCell w ⟨bl, i, none⟩ _ b hb)
  refine ⟨by rw [hoth _ hn.1.symm]; exact V.r, by rw [hoth _ hn.2.1.symm]; exact V.l, by rw [hoth _ hn.2.2.symm]; exact V.f, hj, (V.row.set i _).congr (fun j _ => ?_)⟩
  unfold upd
  split <;> rfl
theorem upd_sz {js : List Job} {k : Nat} {j : Nat} : upd (fun j => if j < k then szJ js j else 0) k (szJ js k) j = if j < k + 1 then szJ js j else 0 := by
  unfold upd
  by_cases e : j = k
  · subst e; simp
  · rw [if_neg e]
    show (if j < k then szJ js j else 0) = _
    by_cases h : j < k
    · rw [if_pos h, if_pos (by omega)]
    · rw [if_neg h, if_neg (by omega)]
theorem Vars.left {w : World} {pr pl pf : Nat} {rule : Int} {A : Option Addr} {cap : Nat} {js : List Job} {bl : Nat} {left left' : Nat → Int} (V : Vars w pr pl pf rule A cap js bl left) (h : ∀ j, j < js.length → left j = left' j) : Vars w pr pl pf rule A cap js bl left' :=
  ⟨V.r, V.l, V.f, V.jobs, V.row.congr (fun j hj => by rw [h j hj])⟩

theorem outV_len (o : List (Nat × Int × Int)) : (outV o).length = o.length * 3 := by
  unfold outV
  induction o with
  | nil => rfl
  | cons p o ih => rw [List.flatMap_cons, List.length_append, ih]; simp [pieceV]; omega
theorem outV_snoc (o : List (Nat × Int × Int)) (p : Nat × Int × Int) : outV (o ++ [p]) = outV o ++ pieceV p := by simp [outV]
theorem outV_last (o : List (Nat × Int × Int)) (p : Nat × Int × Int) (b : Int) : (outV (o ++ [p])).set (o.length * 3 + 2) (.int .i64 b) = outV (o ++ [(p.1, p.2.1, b)]) := by
  rw [outV_snoc, outV_snoc, List.set_append_right _ _ (by rw [outV_len]; omega), outV_len]
  congr 1
  rw [show o.length * 3 + 2 - o.length * 3 = 2 by omega]
  rfl
section
variable {w : World} {pl pr pf po : Nat} {rule : Int} {A : Option Addr} {cap : Nat} {js : List Job} {bl base : Nat} {left : Nat → Int} {on : Int} {wait : List Nat} {out : List (Nat × Int × Int)} {v10 v14 : Value} {wr wx : World}
theorem RunIs.later (h : RunIs w pl pr pf po rule A cap js bl base left on wait out v10 v14 wr) (hs : wr.Since wr.heap.size wx) : RunIs w pl pr pf po rule A cap js bl base left on wait out v10 v14 wx :=
  ⟨since_join h.since hs, h.vars.since hs, h.on.of_block (hs.block _ h.on.lt), own_since' h.wait hs, own_since' h.out hs⟩
theorem RunIs.setOn (P : Places w pl pr pf po bl base) (hj : JobsAt w A js) (h : RunIs w pl pr pf po rule A cap js bl base left on wait out v10 v14 wr) (x : Int) : RunIs w pl pr pf po rule A cap js bl base left x wait out v10 v14 (wr.setCell ⟨po, 0, none⟩ (.int .i64 x)) := by
  have hoth : ∀ b, b ≠ po → (wr.setCell ⟨po, 0, none⟩ (.int .i64 x)).heap[b]? = wr.heap[b]? := fun b hb => Below.heap_setCell wr ⟨po, 0, none⟩ _ b hb
  have hc := P.c
  have hs := h.since.setCell (a := ⟨po, 0, none⟩) P.a.1 (.int .i64 x)
  refine ⟨hs, ⟨?_, ?_, ?_, hj.since (Nat.le_refl _) hs, h.vars.row.of_block (hoth bl (fun e => hc.2.2.2.1 e.symm))⟩, ?_, own_setOther h.wait (own_below h.wait P.b.2.2.2.1) _, own_setOther h.out (own_below h.out P.b.2.2.2.1) _⟩
  · rw [World.cell?_of_block (hoth pr (by omega))]; exact h.vars.r
  · rw [World.cell?_of_block (hoth pl (by omega))]; exact h.vars.l
  · rw [World.cell?_of_block (hoth pf (by omega))]; exact h.vars.f
  · refine (h.on.set 0 _).congr (fun i (hi : i < 1) => ?_)
    obtain rfl : i = 0 := by omega
    rfl
theorem RunIs.setLeft (P : Places w pl pr pf po bl base) (hj : JobsAt w A js) (h : RunIs w pl pr pf po rule A cap js bl base left on wait out v10 v14 wr) (i : Nat) (x : Int) : RunIs w pl pr pf po rule A cap js bl base (upd left i x) on wait out v10 v14 (wr.setCell ⟨bl, i, none⟩ (.int .i64 x)) := by
  have hoth : ∀ b, b ≠ bl → (wr.setCell ⟨bl, i, none⟩ (.int .i64 x)).heap[b]? = wr.heap[b]? := fun b hb => Below.heap_setCell wr ⟨bl, i, none⟩ _ b hb
  have hc := P.c
  have hs := h.since.setCell (a := ⟨bl, i, none⟩) P.a.2.1 (.int .i64 x)
  exact ⟨hs, h.vars.put i x (by omega) (hj.since (Nat.le_refl _) hs), h.on.of_block (hoth _ (by omega)), own_setOther h.wait (own_below h.wait P.b.2.2.2.2) _, own_setOther h.out (own_below h.out P.b.2.2.2.2) _⟩
/-- only a row from base on has turned -/
theorem RunIs.rows (P : Places w pl pr pf po bl base) (hj : JobsAt w A js) (h : RunIs w pl pr pf po rule A cap js bl base left on wait out v10 v14 wr) (hs : w.Since w.heap.size wx) {g : Option Nat} (hb : ∀ k, k < wr.heap.size → some k ≠ g → wx.heap[k]? = wr.heap[k]?) (hg : ∀ k, g = some k → base ≤ k)
    {wait' : List Nat} {out' : List (Nat × Int × Int)} {v10' v14' : Value} (hw : wx.ownsRow base 3 1 v14' wait'.length (wait'.map natV)) (ho : wx.ownsRow base 36 3 v10' out'.length (outV out')) : RunIs w pl pr pf po rule A cap js bl base left on wait' out' v10' v14' wx := by
  have hP := P.b
  have hoth : ∀ b, b < wr.heap.size → b < base → wx.heap[b]? = wr.heap[b]? := fun b h1 h2 => hb b h1 (fun e => by have := hg b e.symm; omega)
  have l1 := World.block_lt_of_cell? _ _ h.vars.r
  have l2 := World.block_lt_of_cell? _ _ h.vars.l
  have l3 := World.block_lt_of_cell? _ _ h.vars.f
  refine ⟨hs, ⟨?_, ?_, ?_, hj.since (Nat.le_refl _) hs, h.vars.row.of_block (hoth _ h.vars.row.lt (by omega))⟩, h.on.of_block (hoth _ h.on.lt (by omega)), hw, ho⟩
  · rw [World.cell?_of_block (hoth pr l1 (by omega))]; exact h.vars.r
  · rw [World.cell?_of_block (hoth pl l2 (by omega))]; exact h.vars.l
  · rw [World.cell?_of_block (hoth pf l3 (by omega))]; exact h.vars.f
theorem RunIs.waitGrown (P : Places w pl pr pf po bl base) (hj : JobsAt w A js) (h : RunIs w pl pr pf po rule A cap js bl base left on wait out v10 v14 wr) {wait' : List Nat} {v14' : Value} (hown : wx.ownsRow base 3 1 v14' wait'.length (wait'.map natV)) (hg : wr.grownBy wx v14.ownBlock) : RunIs w pl pr pf po rule A cap js bl base left on wait' out v10 v14' wx := by
  have hs : w.Since w.heap.size wx := h.since.grown hg h.since.size (fun k hk => by have := (h.wait.lt k hk).1; have := P.a; omega)
  exact h.rows P hj hs hg.block (fun k hk => (h.wait.lt k hk).1) hown (own_block h.out (fun k hk => hg.block k (h.out.lt k hk).2 (fun e => own_apart h.out h.wait (by decide) e.symm hk)))
theorem RunIs.outGrown (P : Places w pl pr pf po bl base) (hj : JobsAt w A js) (h : RunIs w pl pr pf po rule A cap js bl base left on wait out v10 v14 wr) {out' : List (Nat × Int × Int)} {v10' : Value} (hown : wx.ownsRow base 36 3 v10' out'.length (outV out')) (hg : wr.grownBy wx v10.ownBlock) : RunIs w pl pr pf po rule A cap js bl base left on wait out' v10' v14 wx := by
  have hs : w.Since w.heap.size wx := h.since.grown hg h.since.size (fun k hk => by have := (h.out.lt k hk).1; have := P.a; omega)
  exact h.rows P hj hs hg.block (fun k hk => (h.out.lt k hk).1) (own_block h.wait (fun k hk => hg.block k (h.wait.lt k hk).2 (fun e => own_apart h.wait h.out (by decide) e.symm hk))) hown
theorem RunIs.outSet (P : Places w pl pr pf po bl base) (hj : JobsAt w A js) {o : List (Nat × Int × Int)} {p : Nat × Int × Int} (h : RunIs w pl pr pf po rule A cap js bl base left on wait (o ++ [p]) v10 v14 wr) {g : Nat} (hg : v10.ownBlock = some g) (b : Int) : RunIs w pl pr pf po rule A cap js bl base left on wait (o ++ [(p.1, p.2.1, b)]) v10 v14 (wr.setCell ⟨g, o.length * 3 + 2, none⟩ (.int .i64 b)) := by
  have hgb := h.out.lt g hg
  have hs := h.since.setCell (a := ⟨g, o.length * 3 + 2, none⟩) (by have := P.a; show w.heap.size ≤ g; omega) (.int .i64 b)
  refine h.rows P hj hs (g := some g) (fun k hk hne => Below.heap_setCell wr ⟨g, o.length * 3 + 2, none⟩ _ k (fun e => hne (by rw [e]))) (fun k hk => by injection hk with e; omega) (own_setOther h.wait (own_apart h.wait h.out (by decide) hg) _) ?_
  have := own_set h.out hg (o.length * 3 + 2) (.int .i64 b)
  rw [outV_last] at this
  simpa using this
theorem RunIs.waitCut (P : Places w pl pr pf po bl base) (hj : JobsAt w A js) (h : RunIs w pl pr pf po rule A cap js bl base left on wait out v10 v14 wr) {wait' : List Nat} {v14' : Value} {g : Nat} (hgg : v14.ownBlock = some g) (ho : Only wr wx g) (hown : wx.ownsRow base 3 1 v14' wait'.length (wait'.map natV)) : RunIs w pl pr pf po rule A cap js bl base left on wait' out v10 v14' wx := by
  have hgb := h.wait.lt g hgg
  have hs : w.Since w.heap.size wx := ho.since h.since (by have := P.a; omega)
  exact h.rows P hj hs (g := some g) (fun k hk hne => ho.block k hk (fun e => hne (by rw [e]))) (fun k hk => by injection hk with e; omega) hown (own_only h.out ho (own_apart h.out h.wait (by decide) hgg))
end
end Go.Proofs.Ytekjddcckkelnaa
