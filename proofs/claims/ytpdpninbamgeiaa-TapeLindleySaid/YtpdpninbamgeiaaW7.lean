/- tape: Play's memory; its two closures. -/
import Derived.Test.YtpdpninbamgeiaaW6
namespace Go.Proofs.Ytpdpninbamgeiaa
open Go.RowKit HeapM

def natsL (l : List Nat) : List Int := l.map (fun (i : Nat) => (i : Int))
theorem natsL_len (l : List Nat) : (natsL l).length = l.length := by simp [natsL]
def fateF (out : Nat → Int × Int) (i : Nat) : Value := .int .i64 (if i % 2 = 0 then (out (i / 2)).1 else (out (i / 2)).2)
/-- Play's memory: the box of its calls, what becomes of them, the agents, the clock -/
structure PW (w wr : World) (m p2 bo p7 bf p9 : Nat) (vl : Value) (n A : Nat) (vc : Value) (c free : List Int) (out : Nat → Int × Int) : Prop where
  ord : w.heap.size ≤ p2 ∧ p2 < bo ∧ bo < p7 ∧ p7 < bf ∧ bf < p9 ∧ p9 < m ∧ m ≤ wr.heap.size
  since : w.Since w.heap.size wr
  c2 : wr.cell? ⟨p2, 0, none⟩ = some vl
  c7 : wr.cell? ⟨p7, 0, none⟩ = some (.slice (some ⟨bo, 0, none⟩) n n)
  ro : wr.rowIs bo 30 (n * 2) (fateF out)
  rf : wr.rowIs bf 3 A (fun i => .int .i64 (free.getD i 0))
  clk : ClkAt wr m p9 vc c
section
variable {w wr w' : World} {m p2 bo p7 bf p9 : Nat} {vl : Value} {n A : Nat} {vc vc' : Value} {c c' free : List Int} {out : Nat → Int × Int}
theorem PW.own (h : PW w wr m p2 bo p7 bf p9 vl n A vc c free out) : ∀ k, vc.ownBlock = some k → m ≤ k ∧ k < wr.heap.size := h.clk.row.lt
theorem PW.move (h : PW w wr m p2 bo p7 bf p9 vl n A vc c free out) (hs : w.Since w.heap.size w') (hm : wr.heap.size ≤ w'.heap.size) (hb : ∀ k, k < wr.heap.size → k < m ∨ vc.ownBlock = some k → w'.heap[k]? = wr.heap[k]?) : PW w w' m p2 bo p7 bf p9 vl n A vc c free out := by
  obtain ⟨o1, o2, o3, o4, o5, o6, o7⟩ := h.ord
  have e : ∀ k, k < m → w'.heap[k]? = wr.heap[k]? := fun k hk => hb k (by omega) (.inl hk)
  refine ⟨⟨o1, o2, o3, o4, o5, o6, by omega⟩, hs, ?_, ?_, h.ro.of_block (e _ (by omega)), h.rf.of_block (e _ (by omega)), ⟨?_, ?_, h.clk.row.block (fun g hg => hb g (h.own g hg).2 (.inr hg)), h.clk.ne⟩⟩
  · rw [World.cell?_of_block (w := wr) (e p2 (by omega))]; exact h.c2
  · rw [World.cell?_of_block (w := wr) (e p7 (by omega))]; exact h.c7
  · rw [World.cell?_of_block (w := wr) (e p9 (by omega))]; exact h.clk.cell
  · rw [World.frozen?_of_block (w := wr) (e p9 (by omega))]; exact h.clk.fz
theorem PW.drewN (h : PW w wr m p2 bo p7 bf p9 vl n A vc c free out) (k : Nat) : PW w (wr.drewN k) m p2 bo p7 bf p9 vl n A vc c free out := h.move (since_drewN h.since k) (Nat.le_refl _) (fun _ _ _ => rfl)
theorem PW.alloc (h : PW w wr m p2 bo p7 bf p9 vl n A vc c free out) (o : Obj) : PW w (wr.alloc o) m p2 bo p7 bf p9 vl n A vc c free out :=
  h.move (h.since.alloc (by have := h.ord; omega) o) (by simp) (fun k hk _ => (World.grownBy_alloc wr o none).block k hk (by simp))
theorem PW.store (h : PW w wr m p2 bo p7 bf p9 vl n A vc c free out) {g : Nat} (hg : m ≤ g) (hv : vc.ownBlock ≠ some g) (i : Nat) (x : Value) : PW w (wr.setCell ⟨g, i, none⟩ x) m p2 bo p7 bf p9 vl n A vc c free out :=
  h.move (h.since.setCell (show w.heap.size ≤ g by have := h.ord; omega) _) (by simp) (fun k hk hk2 => Below.heap_setCell wr ⟨g, i, none⟩ x k (fun e => by
    rcases hk2 with h1 | h1
    · have e' : k = g := e; omega
    · exact hv (by rw [h1]; exact congrArg some e)))
theorem PW.keeps (h : PW w wr m p2 bo p7 bf p9 vl n A vc c free out) (hk : Keeps wr w' p9 vc vc') (hc : ClkAt w' m p9 vc' c') : PW w w' m p2 bo p7 bf p9 vl n A vc' c' free out := by
  obtain ⟨o1, o2, o3, o4, o5, o6, o7⟩ := h.ord
  have hsz := hk.size
  have e : ∀ k, k < p9 → w'.heap[k]? = wr.heap[k]? := fun k hk' => hk.block k (by omega) (by omega) (fun e => by have := (h.own k e.symm).1; omega)
  refine ⟨⟨o1, o2, o3, o4, o5, o6, by omega⟩, hk.since h.since (by omega) (fun k hv => by have := (h.own k hv).1; omega), ?_, ?_, h.ro.of_block (e _ (by omega)), h.rf.of_block (e _ (by omega)), hc⟩
  · rw [World.cell?_of_block (w := wr) (e p2 (by omega))]; exact h.c2
  · rw [World.cell?_of_block (w := wr) (e p7 (by omega))]; exact h.c7
theorem PW.below {k i : Nat} {x : Value} (h : PW w wr m p2 bo p7 bf p9 vl n A vc c free out) (hk : k < m) : IRow (wr.setCell ⟨k, i, none⟩ x) m false vc c := h.clk.row.block (fun g hg => Below.heap_setCell wr ⟨k, i, none⟩ x g (fun e => by have e' : g = k := e; have := (h.own g hg).1; omega))
theorem PW.set (h : PW w wr m p2 bo p7 bf p9 vl n A vc c free out) {a : Nat} (t : Int) (hA : a < free.length) : PW w (wr.setCell ⟨bf, a, none⟩ (.int .i64 t)) m p2 bo p7 bf p9 vl n A vc c (free.set a t) out := by
  obtain ⟨o1, o2, o3, o4, o5, o6, o7⟩ := h.ord
  refine ⟨⟨o1, o2, o3, o4, o5, o6, by simpa using o7⟩, h.since.setCell (show w.heap.size ≤ bf by omega) _, ?_, ?_, h.ro.setOther (a := ⟨bf, a, none⟩) (show bo ≠ bf by omega) _, (h.rf.set a _).congr (fun i hi => ?_), ⟨?_, ?_, h.below (by omega), h.clk.ne⟩⟩
  · rw [World.cell?_setCell_other _ _ _ _ (by first | (intro e; have := congrArg Addr.block e; simp at this; omega))]; exact h.c2
  · rw [World.cell?_setCell_other _ _ _ _ (by first | (intro e; have := congrArg Addr.block e; simp at this; omega))]; exact h.c7
  · simp only [List.getD_eq_getElem?_getD]
    by_cases e : i = a
    · subst e; rw [if_pos rfl, List.getElem?_set_self hA]; rfl
    · rw [if_neg e, List.getElem?_set_ne (fun e2 => e e2.symm)]
  · rw [World.cell?_setCell_other _ _ _ _ (by first | (intro e; have := congrArg Addr.block e; simp at this; omega))]; exact h.clk.cell
  · rw [World.frozen?_setCell]; exact h.clk.fz
theorem PW.fate (h : PW w wr m p2 bo p7 bf p9 vl n A vc c free out) (i : Nat) (x y : Int) : PW w ((wr.setCell ⟨bo, i * 2, none⟩ (.int .i64 x)).setCell ⟨bo, i * 2 + 1, none⟩ (.int .i64 y)) m p2 bo p7 bf p9 vl n A vc c free (TapeM.upd out i (x, y)) := by
  obtain ⟨o1, o2, o3, o4, o5, o6, o7⟩ := h.ord
  refine ⟨⟨o1, o2, o3, o4, o5, o6, by simpa using o7⟩, (h.since.setCell (show w.heap.size ≤ bo by omega) _).setCell (show w.heap.size ≤ bo by omega) _, ?_, ?_, ((h.ro.set _ _).set _ _).congr (fun j hj => ?_), (h.rf.setOther (a := ⟨bo, _, none⟩) (show bf ≠ bo by omega) _).setOther (a := ⟨bo, _, none⟩) (show bf ≠ bo by omega) _, ⟨?_, ?_, h.clk.row.block (fun g hg => ?_), h.clk.ne⟩⟩
  · rw [World.cell?_setCell_other _ _ _ _ (by first | (intro e; have := congrArg Addr.block e; simp at this; omega)), World.cell?_setCell_other _ _ _ _ (by first | (intro e; have := congrArg Addr.block e; simp at this; omega))]; exact h.c2
  · rw [World.cell?_setCell_other _ _ _ _ (by first | (intro e; have := congrArg Addr.block e; simp at this; omega)), World.cell?_setCell_other _ _ _ _ (by first | (intro e; have := congrArg Addr.block e; simp at this; omega))]; exact h.c7
  · unfold fateF TapeM.upd
    by_cases e1 : j = i * 2 + 1
    · subst e1
      rw [if_pos rfl, if_neg (by omega), if_pos (by omega)]
    · rw [if_neg e1]
      by_cases e2 : j = i * 2
      · subst e2
        rw [if_pos rfl, if_pos (by omega), if_pos (by omega)]
      · rw [if_neg e2, if_neg (show ¬ j / 2 = i by omega)]
  · rw [World.cell?_setCell_other _ _ _ _ (by first | (intro e; have := congrArg Addr.block e; simp at this; omega)), World.cell?_setCell_other _ _ _ _ (by first | (intro e; have := congrArg Addr.block e; simp at this; omega))]; exact h.clk.cell
  · rw [World.frozen?_setCell, World.frozen?_setCell]; exact h.clk.fz
  · have hg1 := (h.own g hg).1
    rw [Below.heap_setCell _ ⟨bo, i * 2 + 1, none⟩ _ g (show g ≠ bo by omega), Below.heap_setCell _ ⟨bo, i * 2, none⟩ _ g (show g ≠ bo by omega)]
end
/-- the first closure: is an agent free? -/
theorem play1_any {p14 : Nat} {now : Int} {W : World} (h : W.cell? ⟨p14, 0, none⟩ = some (.int .i64 now)) : Asks 13 #[.pointer (some ⟨p14, 0, none⟩)] (fun t => decide (t ≤ now)) W := fun x => by
  go_enter Try.func13, Try.ntmps13
  go_wp2
  go_ret
  exact ⟨rfl, rfl⟩
def P2Post (w : World) (m p2 bo p7 bf p9 p14 : Nat) (vl : Value) (n A : Nat) (vc : Value) (c free : List Int) (out : Nat → Int × Int) (now x : Int) (i : Nat) (W : World) (e : Ending) (w' : World) : Prop :=
  e = .returned (.bool (decide (x ≤ now))) ∧ PW w w' m p2 bo p7 bf p9 vl n A vc c free (if x ≤ now then TapeM.upd out i (-1, now) else out) ∧ w'.cell? ⟨p14, 0, none⟩ = some (.int .i64 now) ∧ ∀ B, B < W.heap.size → B ≠ bo → w'.heap[B]? = W.heap[B]?
set_option maxHeartbeats 4000000 in
theorem play2_any {w W : World} {m p2 bo p7 bf p9 p14 : Nat} {Aj : Option Addr} {cap A : Nat} {js : List Tri} {vc : Value} {c free : List Int} {out : Nat → Int × Int} {now : Int} {i : Nat} (hj : TriAt w Aj js) (hok : CallsOk js)
    (h : PW w W m p2 bo p7 bf p9 (.slice Aj js.length cap) js.length A vc c free out) (hn : W.cell? ⟨p14, 0, none⟩ = some (.int .i64 now)) (hm : m ≤ p14) (hi : i < js.length) :
    Calls Try.prog 15 #[.int .i64 (i : Int), .pointer (some ⟨p2, 0, none⟩), .pointer (some ⟨p14, 0, none⟩), .pointer (some ⟨p7, 0, none⟩)] W (P2Post w m p2 bo p7 bf p9 p14 (.slice Aj js.length cap) js.length A vc c free out now (aT js i + pA js i) i W) := by
  have hiz : (i : Int) < (js.length : Int) := by omega
  have hlb := hok.few
  obtain ⟨b1, b2⟩ := hok.plain.at_ i hi
  obtain ⟨b3, b4⟩ := hok.plain.pa i hi
  obtain ⟨b, off, rfl, hb, hc⟩ := hj i hi
  obtain ⟨x, hx⟩ : ∃ x, js[i]? = some x := ⟨js[i], List.getElem?_eq_getElem hi⟩
  obtain ⟨d0, d1, d2⟩ := hc i x hx
  obtain ⟨e0, e1, e2⟩ := tri_at hx
  rw [← e0, ← h.since.cell (show b < w.heap.size from hb)] at d0
  rw [← e2, ← h.since.cell (show b < w.heap.size from hb)] at d2
  have hc2 := h.c2
  have hc7 := h.c7
  have hr0 := h.ro.cell (i := i * 2) (by omega)
  have hr1 := h.ro.cell (i := i * 2 + 1) (by omega)
  have hf0 := h.ro.frozen (i * 2)
  have hf1 := h.ro.frozen (i * 2 + 1)
  generalize fateF out (i * 2) = g0 at hr0
  generalize fateF out (i * 2 + 1) = g1 at hr1
  have Hn := Lib.hid hn
  have H := Lib.hid h
  have HJ := Lib.hid hj
  have HO := Lib.hid hok
  obtain ⟨o1, o2, o3, o4, o5, o6, o7⟩ := h.ord
  have hbo : bo ≠ p14 := by omega
  clear hj hc hx d1 e0 e1 e2 h hok hm o1 o2 o3 o4 o5 o6 o7
  generalize hA : aT js i = a at *
  generalize hP : pA js i = q at *
  have HA := Lib.hid hA
  have HP := Lib.hid hP
  clear hA hP
  by_cases hle : a + q ≤ now
  · have hd : decide (now < a + q) = false := by simpa using hle
    have Hle := Lib.hid hle
    clear hle
    go_enter Try.func15, Try.ntmps15
    go_wp2
    go_quiet (fail)
    go_wp2
    go_ret
    refine ⟨by rw [decide_eq_true Hle.out]; rfl, ?_, ?_, fun B hB hne => ?_⟩
    · rw [if_pos Hle.out]
      exact (H.out.drewN _).fate i (-1) now
    · rw [World.cell?_setCell_other _ _ _ _ (by intro e; exact hbo (congrArg Addr.block e)), World.cell?_setCell_other _ _ _ _ (by intro e; exact hbo (congrArg Addr.block e))]; exact Hn.out
    · rw [Below.heap_setCell _ ⟨bo, i * 2 + 1, none⟩ _ B hne, Below.heap_setCell _ ⟨bo, i * 2, none⟩ _ B hne]; rfl
  · have hd : decide (now < a + q) = true := by simpa using hle
    have Hle := Lib.hid hle
    clear hle
    go_enter Try.func15, Try.ntmps15
    go_wp2
    go_quiet (fail)
    go_wp2
    go_ret
    refine ⟨by rw [decide_eq_false (Int.not_le.2 Hle.out)]; rfl, ?_, hn, fun B _ _ => rfl⟩
    rw [if_neg (Int.not_le.2 Hle.out)]
    exact H.out.drewN _
/-- within a round: the row of those who wait, and what time it is -/
structure PN (w wr : World) (m p2 bo p7 bf p9 p14 : Nat) (vl : Value) (n A : Nat) (vc vw : Value) (c free : List Int) (wt : List Nat) (out : Nat → Int × Int) (now : Int) : Prop where
  pw : PW w wr m p2 bo p7 bf p9 vl n A vc c free out
  row : IRow wr m false vw (natsL wt)
  apart : ∀ k, vc.ownBlock = some k → vw.ownBlock ≠ some k
  now_ : wr.cell? ⟨p14, 0, none⟩ = some (.int .i64 now)
  m14 : m ≤ p14
  nc : vc.ownBlock ≠ some p14
  nw : vw.ownBlock ≠ some p14
section
variable {w wr w' : World} {m p2 bo p7 bf p9 p14 : Nat} {vl : Value} {n A : Nat} {vc vc' vw vw' : Value} {c c' free : List Int} {wt wt' : List Nat} {out : Nat → Int × Int} {now : Int}
theorem PN.p14lt (h : PN w wr m p2 bo p7 bf p9 p14 vl n A vc vw c free wt out now) : p14 < wr.heap.size := World.block_lt_of_cell? _ _ h.now_
theorem PN.drewN (h : PN w wr m p2 bo p7 bf p9 p14 vl n A vc vw c free wt out now) (k : Nat) : PN w (wr.drewN k) m p2 bo p7 bf p9 p14 vl n A vc vw c free wt out now :=
  ⟨h.pw.drewN k, h.row.block (fun _ _ => rfl), h.apart, h.now_, h.m14, h.nc, h.nw⟩
/-- a heap's method -/
theorem PN.keeps (h : PN w wr m p2 bo p7 bf p9 p14 vl n A vc vw c free wt out now) (hk : Keeps wr w' p9 vc vc') (hc : ClkAt w' m p9 vc' c') : PN w w' m p2 bo p7 bf p9 p14 vl n A vc' vw c' free wt out now := by
  have o := h.pw.ord
  have h14 := h.p14lt
  have hm := h.m14
  refine ⟨h.pw.keeps hk hc, h.row.block (fun g hg => ?_), fun k hk2 => ?_, ?_, hm, fun e => ?_, h.nw⟩
  · have h2 := h.row.lt g hg
    exact hk.block g h2.2 (by omega) (fun e => h.apart g e.symm hg)
  · rcases hk.own with h1 | h1 | ⟨j, h1, h2⟩
    · exact h.apart k (h1 ▸ hk2)
    · rw [h1] at hk2; cases hk2
    · rw [h1] at hk2
      injection hk2 with e
      subst e
      intro e2
      have := (h.row.lt _ e2).2
      omega
  · rw [World.cell?_of_block (w := wr) (hk.block p14 h14 (by omega) (fun e => h.nc e.symm))]; exact h.now_
  · rcases hk.own with h1 | h1 | ⟨j, h1, h2⟩
    · exact h.nc (h1 ▸ e)
    · rw [h1] at e; cases e
    · rw [h1] at e
      injection e with e
      omega
/-- the row of those who wait grows -/
theorem PN.grown (h : PN w wr m p2 bo p7 bf p9 p14 vl n A vc vw c free wt out now) {o : Obj} {j : Nat} (hI : IRow w' m false vw' (natsL wt')) (hg : ((wr.alloc o).drewN j).grownBy w' vw.ownBlock) (ho : vw'.ownBlock = vw.ownBlock ∨ vw'.ownBlock = some ((wr.alloc o).drewN j).heap.size) : PN w w' m p2 bo p7 bf p9 p14 vl n A vc vw' c free wt' out now := by
  have od := h.pw.ord
  have h14 := h.p14lt
  have hsz : ((wr.alloc o).drewN j).heap.size = wr.heap.size + 1 := by show (wr.alloc o).heap.size = _; simp
  have hb : ∀ k, k < wr.heap.size → vw.ownBlock ≠ some k → w'.heap[k]? = wr.heap[k]? := fun k hk hv => by
    rw [hg.block k (by omega) (fun e => hv e.symm)]
    exact (World.grownBy_alloc wr o none).block k hk (by simp)
  refine ⟨h.pw.move ?_ (by have := hg.size; omega) (fun k hk hk2 => hb k hk ?_), hI, fun k hk => ?_, ?_, h.m14, h.nc, fun e => ?_⟩
  · exact World.Since.grown (since_drewN (h.pw.since.alloc (by omega) o) j) hg (by omega) (fun k hk => by have := (h.row.lt k hk).1; omega)
  · rcases hk2 with h1 | h1
    · exact fun e => by have := (h.row.lt k e).1; omega
    · exact h.apart k h1
  · rcases ho with h1 | h1
    · rw [h1]; exact h.apart k hk
    · rw [h1, hsz]; intro e; injection e with e
      have := (h.pw.own k hk).2; omega
  · rw [World.cell?_of_block (w := wr) (hb p14 h14 h.nw)]; exact h.now_
  · rcases ho with h1 | h1
    · exact h.nw (h1 ▸ e)
    · rw [h1, hsz] at e; injection e with e; omega
theorem PN.tail (h : PN w wr m p2 bo p7 bf p9 p14 vl n A vc vw c free wt out now) (hI : IRow wr m false vw' (natsL wt')) (ho : vw'.ownBlock = vw.ownBlock) : PN w wr m p2 bo p7 bf p9 p14 vl n A vc vw' c free wt' out now :=
  ⟨h.pw, hI, fun k hk => ho ▸ h.apart k hk, h.now_, h.m14, h.nc, ho ▸ h.nw⟩
theorem PN.below (h : PN w wr m p2 bo p7 bf p9 p14 vl n A vc vw c free wt out now) {k i : Nat} (hk : k < m) (x : Value) : IRow (wr.setCell ⟨k, i, none⟩ x) m false vw (natsL wt) ∧ (wr.setCell ⟨k, i, none⟩ x).cell? ⟨p14, 0, none⟩ = some (.int .i64 now) := by
  have := h.m14
  refine ⟨h.row.block (fun g hg => Below.heap_setCell wr ⟨k, i, none⟩ x g (fun e => by have e' : g = k := e; have := (h.row.lt g hg).1; omega)), ?_⟩
  rw [World.cell?_setCell_other _ _ _ _ (by intro e; have := congrArg Addr.block e; simp at this; omega)]
  exact h.now_
theorem PN.set (h : PN w wr m p2 bo p7 bf p9 p14 vl n A vc vw c free wt out now) {a : Nat} (t : Int) (hA : a < free.length) : PN w (wr.setCell ⟨bf, a, none⟩ (.int .i64 t)) m p2 bo p7 bf p9 p14 vl n A vc vw c (free.set a t) wt out now := by
  have o := h.pw.ord
  have hb := h.below (i := a) (show bf < m by omega) (.int .i64 t)
  exact ⟨h.pw.set t hA, hb.1, h.apart, hb.2, h.m14, h.nc, h.nw⟩
theorem PN.fate (h : PN w wr m p2 bo p7 bf p9 p14 vl n A vc vw c free wt out now) (i : Nat) (x y : Int) : PN w ((wr.setCell ⟨bo, i * 2, none⟩ (.int .i64 x)).setCell ⟨bo, i * 2 + 1, none⟩ (.int .i64 y)) m p2 bo p7 bf p9 p14 vl n A vc vw c free wt (TapeM.upd out i (x, y)) now := by
  have o := h.pw.ord
  have hb := h.below (i := i * 2) (show bo < m by omega) (.int .i64 x)
  have h2 : m ≤ p14 := h.m14
  refine ⟨h.pw.fate i x y, hb.1.block (fun g hg => Below.heap_setCell _ ⟨bo, i * 2 + 1, none⟩ _ g (fun e => by have e' : g = bo := e; have := (h.row.lt g hg).1; omega)), h.apart, ?_, h.m14, h.nc, h.nw⟩
  rw [World.cell?_setCell_other _ _ _ _ (by intro e; have := congrArg Addr.block e; simp at this; omega)]
  exact hb.2
end
end Go.Proofs.Ytpdpninbamgeiaa
