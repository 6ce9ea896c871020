/- tape: Play. -/
import Derived.Test.YtpdpninbamgeiaaW8
import Derived.Deep.DeepCutAuto
import Derived.Deep.CutBlock
namespace Go.Proofs.Ytpdpninbamgeiaa
open Go.RowKit HeapM

def PlayPost (w : World) (js : List Tri) (A : Nat) (e : Ending) (w' : World) : Prop :=
  ∃ (g nx : Nat) (wt : List Nat) (free : List Int) (out : Nat → Int × Int) (T : Int), e = .returned (.tuple #[.slice (some ⟨g, 0, none⟩) js.length js.length, .nilIface]) ∧ w.Since w.heap.size w' ∧ w.heap.size ≤ g ∧ w'.rowIs g 30 (js.length * 2) (fateF out) ∧
    TapeM.Reach js.length A (aT js) (lO js) (pA js) ⟨[], nx, wt, free, out, T, 0⟩
theorem since_low {w w' : World} {B B' : Nat} (h : w.Since B w') (hB : B' ≤ B) : w.Since B' w' := ⟨h.os, h.tape, h.output, h.size, fun i hi => h.block i (Nat.lt_of_lt_of_le hi hB)⟩
theorem infoFate : (Try.prog.info? 30).map (fun i => (i.zero.map Value.cells, i.size, i.bytes)) = some (some #[.int .i64 0, .int .i64 0], 2, 16) := by kernel_rfl
theorem underlyingFates : Try.prog.underlying 23 = some (.slice 30) := by kernel_rfl
theorem mk_fates (n : Nat) (hn : n ≤ 60) (W : World) : (Instr.makeSlice 23 (.int .i64 (n : Int)) (.int .i64 (n : Int))).run Try.prog W = .ok (.slice (some ⟨W.heap.size, 0, none⟩) n n) (W.alloc (.cells (madeCells #[.int .i64 0, .int .i64 0] (n * 2)) 30)) := by
  obtain ⟨i, hi, h⟩ := Option.map_eq_some_iff.1 infoFate
  simp only [Prod.mk.injEq] at h
  obtain ⟨h1, h2, h3⟩ := h
  obtain ⟨z, hz, hzc⟩ := Option.map_eq_some_iff.1 h1
  have := run_make (P := Try.prog) W 23 30 i z underlyingFates hi hz .i64 .i64 (n : Int) n (by omega) (Int.le_refl _) (by rw [h3]; omega) (by omega)
  rw [h2, hzc] at this
  simpa using this
theorem mk_ints (n : Nat) (hn : n ≤ 60) (W : World) : (Instr.makeSlice 35 (.int .i64 (n : Int)) (.int .i64 (n : Int))).run Try.prog W = .ok (.slice (some ⟨W.heap.size, 0, none⟩) n n) (W.alloc (.cells (madeCells #[.int .i64 0] n) 3)) :=
  run_make_row' 35 3 (.int .i64 0) 8 underlyingI info_intO rfl .i64 .i64 n (by omega) (by omega) W
theorem row_fates (n : Nat) (W : World) : (W.alloc (.cells (madeCells #[.int .i64 0, .int .i64 0] (n * 2)) 30)).rowIs W.heap.size 30 (n * 2) (fateF (fun _ => (0, 0))) := by
  have := World.rowIs_alloc W (madeCells #[.int .i64 0, .int .i64 0] (n * 2)) 30 (fateF (fun _ => (0, 0))) (fun i hi => by
    rw [size_madeCells] at hi
    have h2 : i % 2 < 2 := Nat.mod_lt _ (by omega)
    have e : fateF (fun _ => (0, 0)) i = .int .i64 0 := by unfold fateF; split <;> rfl
    rw [e]
    have h3 : i % 2 = 0 ∨ i % 2 = 1 := by omega
    rcases h3 with h3 | h3 <;> simp [madeCells, hi, h3])
  rw [size_madeCells] at this
  exact this
theorem idxP_cases (p : Int → Bool) (xs : List Int) : (idxP p xs = -1 ∧ ∀ x ∈ xs, p x = false) ∨ ∃ k x, k < xs.length ∧ idxP p xs = (k : Nat) ∧ xs[k]? = some x ∧ p x = true := by
  induction xs with
  | nil => left; exact ⟨rfl, by simp⟩
  | cons a xs ih =>
    by_cases h : p a = true
    · right; exact ⟨0, a, by simp, by simp [idxP, h], rfl, h⟩
    · have ha : p a = false := by simpa using h
      rcases ih with ⟨h1, h2⟩ | ⟨k, x, h1, h2, h3, h4⟩
      · left
        refine ⟨by rw [idxP, if_neg h, if_pos (by omega)], fun x hx => ?_⟩
        rcases List.mem_cons.1 hx with rfl | hx
        · exact ha
        · exact h2 x hx
      · right
        exact ⟨k + 1, x, by simpa using h1, by rw [idxP, if_neg h, if_neg (by omega), h2]; omega, by simpa using h3, h4⟩
section
variable {w wr w' : World} {m p2 bo p7 bf p9 p14 : Nat} {vl : Value} {n A : Nat} {vc vc' vw vw' : Value} {c c' free : List Int} {wt wt' : List Nat} {out : Nat → Int × Int} {now : Int}
/-- a time is taken out of the clock -/
theorem pn_pop (h : PW w wr m p2 bo p7 bf p9 vl n A vc c free out) (hr : IRow wr m false vw (natsL wt)) (ha : ∀ k, vc.ownBlock = some k → vw.ownBlock ≠ some k) (hk : Keeps wr w' p9 vc vc') (hc : ClkAt w' m p9 vc' c') :
    PN w (w'.alloc (.cells #[.int .i64 now] 3)) m p2 bo p7 bf p9 w'.heap.size vl n A vc' vw c' free wt out now := by
  have o := h.ord
  have h2 := h.keeps hk hc
  have o2 := h2.ord
  have hrw : ∀ g, vw.ownBlock = some g → w'.heap[g]? = wr.heap[g]? := fun g hg => hk.block g (hr.lt g hg).2 (by have := (hr.lt g hg).1; omega) (fun e => ha g e.symm hg)
  have hr2 : IRow w' m false vw (natsL wt) := hr.block hrw
  refine ⟨h2.alloc _, hr2.block (fun g hg => (World.grownBy_alloc w' _ none).block g (hr2.lt g hg).2 (by simp)), fun k hk2 => ?_, by rw [World.cell?_alloc_at _ _ _ _ rfl]; rfl, by omega, fun e => by have := (h2.own _ e).2; omega, fun e => by have := (hr2.lt _ e).2; omega⟩
  rcases hk.own with h1 | h1 | ⟨j, h1, h3⟩
  · exact ha k (h1 ▸ hk2)
  · rw [h1] at hk2; cases hk2
  · rw [h1] at hk2
    injection hk2 with e
    subst e
    intro e2
    have := (hr.lt _ e2).2
    omega
theorem PN.append (h : PN w wr m p2 bo p7 bf p9 p14 vl n A vc vw c free wt out now) (x : Nat) (hl : wt.length ≤ 1000000) :
    ∃ v' w', (Builtin.append_ #[35, 35] 35 #[vw, .slice (some ⟨wr.heap.size, 0, none⟩) 1 1]).run Try.prog (wr.alloc (.cells #[.int .i64 (x : Int)] 3)) = .ok v' w' ∧ PN w w' m p2 bo p7 bf p9 p14 vl n A vc v' c free (wt ++ [x]) out now := by
  have o := h.pw.ord
  have hr : IRow (wr.alloc (.cells #[.int .i64 (x : Int)] 3)) m false vw (natsL wt) := h.row.block (fun g hg => (World.grownBy_alloc wr _ none).block g (h.row.lt g hg).2 (by simp))
  obtain ⟨v', w', h1, h2, h3, h4⟩ := irow_appendT underlyingR hr (by simp; omega) (x := (x : Int)) (a := ⟨wr.heap.size, 0, none⟩) (by rw [World.cell?_alloc_at _ _ _ _ rfl]; rfl) 35 1 (by rw [natsL_len]; omega)
  have e : natsL wt ++ [(x : Int)] = natsL (wt ++ [x]) := by unfold natsL; rw [List.map_append]; rfl
  rw [e] at h2
  exact ⟨v', w', h1, h.grown (j := 0) h2 h3 h4⟩
end
theorem irow_head {w : World} {base : Nat} {v : Value} {x : Int} {xs : List Int} (h : IRow w base false v (x :: xs)) : ∃ g o c, v = .slice (some ⟨g, o, none⟩) (xs.length + 1) c ∧ xs.length + 1 ≤ c ∧ c ≤ maxLen ∧ w.cell? ⟨g, o, none⟩ = some (.int .i64 x) ∧
    IRow w base false (.slice (some ⟨g, o + 1, none⟩) xs.length (c - 1)) xs ∧ (c = 1 → IRow w base false (.slice (some ⟨g, o, none⟩) xs.length (c - 1)) xs) := by
  obtain ⟨g, o, c, e, h1, h2, h3, h4⟩ := irow_tail h
  obtain ⟨g', o', c', e', _, _, _, _, hc, _⟩ := h.at (by simp)
  rw [e] at e'
  injection e' with e1 e2 e3
  injection e1 with e1
  injection e1 with e1 e4
  subst e1 e4 e3
  exact ⟨g, o, c, e, h1, h2, hc 0 x rfl, h3, h4⟩
def world4 (w1 : World) (n A : Nat) : World := ((((w1.alloc (.cells (madeCells #[.int .i64 0, .int .i64 0] (n * 2)) 30)).alloc (.cells #[.slice (some ⟨w1.heap.size, 0, none⟩) n n] 23)).alloc (.cells (madeCells #[.int .i64 0] A) 3)).alloc (.cells #[.slice none 0 0] 43))
theorem pw_init {w w1 : World} {vl : Value} {n A : Nat} (hs : w.Since w.heap.size w1) (hz : w.heap.size + 1 ≤ w1.heap.size) (hc : w1.cell? ⟨w.heap.size, 0, none⟩ = some vl) :
    PW w (world4 w1 n A) (w1.heap.size + 1 + 1 + 1 + 1) w.heap.size w1.heap.size (w1.heap.size + 1) (w1.heap.size + 1 + 1) (w1.heap.size + 1 + 1 + 1) vl n A (.slice none 0 0) [] (List.replicate A 0) (fun _ => (0, 0)) := by
  have a1 := row_fates n w1
  unfold world4
  obtain ⟨wa, hwa⟩ : ∃ wa, wa = w1.alloc (.cells (madeCells #[.int .i64 0, .int .i64 0] (n * 2)) 30) := ⟨_, rfl⟩
  have za : wa.heap.size = w1.heap.size + 1 := by rw [hwa]; simp
  have sa : w.Since w.heap.size wa := by rw [hwa]; exact hs.alloc (by omega) _
  have ca : wa.cell? ⟨w.heap.size, 0, none⟩ = some vl := by rw [hwa, World.cell?_alloc_lt _ _ _ (by show w.heap.size < _; omega)]; exact hc
  rw [← hwa] at a1 ⊢
  clear hwa
  obtain ⟨wb, hwb⟩ : ∃ wb, wb = wa.alloc (.cells #[.slice (some ⟨w1.heap.size, 0, none⟩) n n] 23) := ⟨_, rfl⟩
  have zb : wb.heap.size = w1.heap.size + 2 := by rw [hwb]; simp [za]
  have sb : w.Since w.heap.size wb := by rw [hwb]; exact sa.alloc (by omega) _
  have b1 : wb.rowIs w1.heap.size 30 (n * 2) (fateF (fun _ => (0, 0))) := by rw [hwb]; exact a1.alloc _
  have cb : wb.cell? ⟨w.heap.size, 0, none⟩ = some vl := by rw [hwb, World.cell?_alloc_lt _ _ _ (by show w.heap.size < _; omega)]; exact ca
  have db : wb.cell? ⟨w1.heap.size + 1, 0, none⟩ = some (.slice (some ⟨w1.heap.size, 0, none⟩) n n) := by rw [hwb, World.cell?_alloc_at _ _ _ _ (show w1.heap.size + 1 = wa.heap.size from za.symm)]; rfl
  rw [← hwb]
  clear hwb
  obtain ⟨wc, hwc⟩ : ∃ wc, wc = wb.alloc (.cells (madeCells #[.int .i64 0] A) 3) := ⟨_, rfl⟩
  have zc : wc.heap.size = w1.heap.size + 3 := by rw [hwc]; simp [zb]
  have sc : w.Since w.heap.size wc := by rw [hwc]; exact sb.alloc (by omega) _
  have c1 : wc.rowIs w1.heap.size 30 (n * 2) (fateF (fun _ => (0, 0))) := by rw [hwc]; exact b1.alloc _
  have cc : wc.cell? ⟨w.heap.size, 0, none⟩ = some vl := by rw [hwc, World.cell?_alloc_lt _ _ _ (by show w.heap.size < _; omega)]; exact cb
  have dc : wc.cell? ⟨w1.heap.size + 1, 0, none⟩ = some (.slice (some ⟨w1.heap.size, 0, none⟩) n n) := by rw [hwc, World.cell?_alloc_lt _ _ _ (by show w1.heap.size + 1 < _; omega)]; exact db
  have ec : wc.rowIs (w1.heap.size + 2) 3 A (fun i => .int .i64 ((List.replicate A (0 : Int)).getD i 0)) := by
    have := World.rowIs_made wb (.int .i64 0) A 3
    rw [zb, ← hwc] at this
    exact this.congr (fun i hi => by simp [hi])
  rw [← hwc]
  clear hwc
  refine ⟨⟨Nat.le_refl _, by omega, by omega, by omega, by omega, by omega, by simp; omega⟩, sc.alloc (by omega) _, ?_, ?_, c1.alloc _, ec.alloc _, ⟨?_, ?_, irow_nil _ _ _, by simp [Value.ownBlock]⟩⟩
  · rw [World.cell?_alloc_lt _ _ _ (by show w.heap.size < _; omega)]; exact cc
  · rw [World.cell?_alloc_lt _ _ _ (by show w1.heap.size + 1 < _; omega)]; exact dc
  · rw [World.cell?_alloc_at _ _ _ _ (show w1.heap.size + 3 = wc.heap.size from zc.symm)]; rfl
  · rw [← zc]; simp
set_option maxRecDepth 8000 in
set_option maxHeartbeats 8000000 in
theorem Play_ok {Aj : Option Addr} {cap A : Nat} {js : List Tri} {w : World} (hj : TriAt w Aj js) (hok : CallsOk js) (hA : A ≤ 20) :
    Calls Try.prog 5 #[.slice Aj js.length cap, .int .i64 (A : Int)] w (PlayPost w js A) := by
  have hn60 := hok.few
  have hAz : (A : Int) ≤ 20 := by omega
  have HJ := Lib.hid hj
  have HO := Lib.hid hok
  obtain ⟨n, hn⟩ : ∃ n, n = js.length := ⟨_, rfl⟩
  have j1 : TriAt (w.alloc (.cells #[.slice Aj js.length cap] 22)) Aj js := hj.since (Nat.le_refl _) ((World.Since.refl w.heap.size w).alloc (Nat.le_refl _) _)
  have C1 := Lib.hid (Check_ok (cap := cap) j1 hok)
  have s1 := (World.Since.refl w.heap.size w).alloc (Nat.le_refl _) (.cells #[.slice Aj js.length cap] 22)
  have S1 := Lib.hid s1
  clear hj hok j1 s1
  go_enter Try.func5, Try.ntmps5
  go_wp2_with fail
  refine C1.out.mono ?_
  rintro e w1 ⟨hs1, rfl⟩
  have S2 := Lib.hid (S1.out.trans (since_low hs1 (by simp)))
  have hz1 : w.heap.size + 1 ≤ w1.heap.size := by have := hs1.size; simpa using this
  have hc1 : w1.cell? ⟨w.heap.size, 0, none⟩ = some (.slice Aj js.length cap) := by
    rw [hs1.cell (show w.heap.size < (w.alloc _).heap.size by simp)]
    exact (World.cell?_alloc_at _ _ _ _ rfl).trans rfl
  clear hs1 C1 S1
  have mk1 := mk_fates js.length hn60
  have mk2 := mk_ints A (by omega)
  go_upto_region 9 with fail
  have P0 := pw_init (n := js.length) (A := A) S2.out hz1 hc1
  unfold world4 at P0
  have HP0 := Lib.hid P0
  clear P0 S2 hz1 hc1 mk1 mk2
  generalize ((((w1.alloc (.cells (madeCells #[.int .i64 0, .int .i64 0] (js.length * 2)) 30)).alloc (.cells #[.slice (some ⟨w1.heap.size, 0, none⟩) js.length js.length] 23)).alloc (.cells (madeCells #[.int .i64 0] A) 3)).alloc (.cells #[.slice none 0 0] 43)) = w2 at *
  generalize w1.heap.size + 1 + 1 + 1 + 1 = m at *
  generalize w1.heap.size + 1 + 1 + 1 = p9 at *
  generalize w1.heap.size + 1 + 1 = bf at *
  generalize w1.heap.size + 1 = p7 at *
  generalize w1.heap.size = bo at *
  have hc2 := HP0.out.c2
  go_wp2
  clear hc2
  go_loopg [36] js.length (fun gh iv wr => ∃ (k : Nat) (vc : Value) (c : List Int), k ≤ js.length ∧ gh = js.length - k ∧ iv = .int .i64 k ∧ Hid (PW w wr m w.heap.size bo p7 bf p9 (.slice Aj js.length cap) js.length A vc c (List.replicate A 0) (fun _ => (0, 0))) ∧ Hid (c.Perm (TapeM.events (aT js) (pA js) k)) ∧ Hid (Heap lt 0 c.length c))
  case atStart => exact ⟨0, _, _, Nat.zero_le _, rfl, rfl, HP0, Lib.hid (List.Perm.refl _), Lib.hid (fun j h1 h2 => by simp at h2)⟩
  case round =>
    clear HP0
    obtain ⟨k, vc, c, hk, rfl, rfl, hW, hP, hH⟩ := hrel
    by_cases hkl : k < js.length
    · have hkz : (k : Int) < (js.length : Int) := by omega
      obtain ⟨b, off, rfl, hb, hc⟩ := HJ.out k hkl
      obtain ⟨x, hx⟩ : ∃ x, js[k]? = some x := ⟨js[k], List.getElem?_eq_getElem hkl⟩
      obtain ⟨d0, d1, d2⟩ := hc k x hx
      obtain ⟨e0, e1, e2⟩ := tri_at hx
      rw [← hW.out.since.cell (show b < w.heap.size from hb)] at d0 d1 d2
      obtain ⟨b1, b2⟩ := HO.out.plain.at_ k hkl
      obtain ⟨b3, b4⟩ := HO.out.plain.pa k hkl
      have E0 := Lib.hid e0
      have E2 := Lib.hid e2
      rw [e0] at b1 b2
      rw [e2] at b3 b4
      obtain ⟨x0, x1, x2⟩ := x
      simp only at d0 d1 d2 b1 b2 b3 b4 E0 E2
      clear hc hx e0 e1 e2
      have hlen : c.length = 2 * k := by rw [hP.out.length_eq, TapeM.events_len]
      have Hlen := Lib.hid hlen
      clear hlen
      have W1 : ∀ o, PW w (wr.alloc o) m w.heap.size bo p7 bf p9 (.slice (some ⟨b, off, none⟩) js.length cap) js.length A vc c (List.replicate A 0) (fun _ => (0, 0)) := fun o => hW.out.alloc o
      have HW1 := Lib.hid W1
      clear W1
      have hk60 : k ≤ 60 := by omega
      go_wp2_with fail
      refine (Push_any (HW1.out _).clk hH.out (HW1.out _).ord.2.2.2.2.2.2 (by have := (HW1.out (.cells #[.int .i64 x0, .int .i64 x1, .int .i64 x2] 32)).ord; omega) x0 (by have := Hlen.out; omega)).mono ?_
      rintro e w3 ⟨rfl, vc3, c3, hC3, hP3, hH3, hK3⟩
      have W3 := Lib.hid ((HW1.out _).keeps hK3 hC3)
      have hbl : w3.heap[wr.heap.size]? = (wr.alloc (.cells #[.int .i64 x0, .int .i64 x1, .int .i64 x2] 32)).heap[wr.heap.size]? :=
        hK3.block wr.heap.size (by simp) (by have := hW.out.ord; omega) (fun e => by have := (hW.out.own _ e.symm).2; omega)
      have g0 : w3.cell? ⟨wr.heap.size, 0, none⟩ = some (.int .i64 x0) := by
        rw [World.cell?_of_block (w := wr.alloc (.cells #[.int .i64 x0, .int .i64 x1, .int .i64 x2] 32)) hbl, World.cell?_alloc_at _ _ _ _ rfl]; rfl
      have g2 : w3.cell? ⟨wr.heap.size, 2, none⟩ = some (.int .i64 x2) := by
        rw [World.cell?_of_block (w := wr.alloc (.cells #[.int .i64 x0, .int .i64 x1, .int .i64 x2] 32)) hbl, World.cell?_alloc_at _ _ _ _ rfl]; rfl
      have HP3 := Lib.hid hP3
      have HH3 := Lib.hid hH3
      have hl3 : Hid (c3.length = 2 * k + 1) := Lib.hid (by rw [hP3.length_eq]; simp [Hlen.out])
      clear hK3 hC3 hbl hP3 hH3 hW HW1 hH d0 d1 d2
      go_wp2_with fail
      refine (Push_any W3.out.clk HH3.out W3.out.ord.2.2.2.2.2.2 (by have := W3.out.ord; omega) (x0 + x2) (by have := hl3.out; omega)).mono ?_
      rintro e w4 ⟨rfl, vc4, c4, hC4, hP4, hH4, hK4⟩
      have W4 := Lib.hid (W3.out.keeps hK4 hC4)
      have HP4 := Lib.hid hP4
      have HH4 := Lib.hid hH4
      clear hK4 hC4 hP4 hH4 g0 g2
      go_wp2
      go_roundg (js.length - (k + 1))
      case measure => go_light; omega
      case rel =>
        go_light
        refine ⟨k + 1, vc4, c4, by omega, rfl, by go_num, W4, Lib.hid ?_, HH4⟩
        unfold TapeM.events
        rw [E0.out, E2.out]
        refine HP4.out.trans (((HP3.out.trans (hP.out.append_right _)).append_right _).trans ?_)
        rw [List.append_assoc]
        exact List.Perm.refl _
    · obtain rfl : js.length = k := by omega
      have hR : TapeM.Reach js.length A (aT js) (lO js) (pA js) ⟨c, 0, [], List.replicate A 0, fun _ => (0, 0), -1, 0⟩ := .start c hP.out
      have HR := Lib.hid hR
      clear hR hP
      go_wp2
      go_loopg [12, 13] (c.length + js.length) (fun gh wv nv wr => ∃ (c : List Int) (nx : Nat) (wt : List Nat) (free : List Int) (out : Nat → Int × Int) (T : Int) (vc : Value), gh = c.length + (js.length - nx) + wt.length ∧ nv = .int .i64 (nx : Int) ∧ Hid (PW w wr m w.heap.size bo p7 bf p9 (.slice Aj js.length cap) js.length A vc c free out) ∧ Hid (IRow wr m false wv (natsL wt)) ∧ Hid (∀ k, vc.ownBlock = some k → wv.ownBlock ≠ some k) ∧ Hid (Heap lt 0 c.length c) ∧ Hid (TapeM.Reach js.length A (aT js) (lO js) (pA js) ⟨c, nx, wt, free, out, T, 0⟩))
      case atStart => exact ⟨c, 0, [], _, _, _, vc, rfl, rfl, hW, Lib.hid (irow_nil _ _ _), Lib.hid (fun k _ => by simp [Value.ownBlock]), hH, HR⟩
      case round =>
        clear hW HR hH
        obtain ⟨c, nx, wt, free, out, T, vc, rfl, rfl, hW, hI, hap, hH, hR⟩ := hrel
        obtain ⟨mu, hmu⟩ : ∃ mu, mu = c.length + (js.length - nx) + wt.length := ⟨_, rfl⟩
        have Hmu := Lib.hid hmu
        clear hmu
        have hinv := TapeM.reach_inv HO.out.plain hR.out
        have Hinv := Lib.hid hinv
        obtain ⟨A9, c9, e9, hc9, hm9⟩ := hW.out.clk.row.form
        subst e9
        have cc := hW.out.clk.cell
        have hcl : c.length ≤ 180 := by have := hinv.len; simp only at this; omega
        have hmub : mu ≤ 180 := by have := hinv.len; have := Hmu.out; simp only at *; omega
        clear hinv
        by_cases hc0 : c.length = 0
        · obtain rfl : c = [] := List.eq_nil_of_length_eq_zero hc0
          have c7 := hW.out.c7
          clear hc0
          go_wp2_with fail
          refine len_any.mono ?_
          rintro e w' ⟨rfl, rfl⟩
          go_wp2
          go_ret2
          exact ⟨bo, nx, wt, free, out, T, rfl, hW.out.since, by have := hW.out.ord; omega, hW.out.ro, hR.out⟩
        · have hc1 : 0 < c.length := by omega
          have hc1z : (0 : Int) < (c.length : Int) := by omega
          have hmz := hW.out.ord
          have C2 := Lib.hid (Pop_any hW.out.clk hH.out hmz.2.2.2.2.2.2 (by omega) hc1 (by omega))
          have hta := fun x W => ta x W
          clear hc0 hmz
          go_wp2_with fail
          refine len_any.mono ?_
          rintro e w' ⟨rfl, rfl⟩
          clear cc
          go_wp2_with fail
          refine C2.out.mono ?_
          rintro e w3 ⟨rfl, vc3, c3, hC3, hP3, hH3, hK3⟩
          obtain ⟨now, hnow⟩ : ∃ now, now = c.getD 0 0 := ⟨_, rfl⟩
          have hmin : ∀ y ∈ c, now ≤ y := fun y hy => by
            obtain ⟨j, hj, he⟩ := List.getElem_of_mem hy
            have := heap_min lt_ord hH.out j hj
            rw [← hnow, List.getD_eq_getElem?_getD, List.getElem?_eq_getElem hj, he] at this
            simp only [lt, Option.getD_some, decide_eq_false_iff_not] at this
            omega
          rw [← hnow] at hP3 ⊢
          have hR3 := TapeM.Reach.pop c c3 nx wt free out T now hR.out hP3 hmin
          have hl3 : c3.length + 1 = c.length := by rw [hP3.length_eq]; simp
          have HN := Lib.hid (pn_pop (now := now) hW.out hI.out hap.out hK3 hC3)
          have HR := Lib.hid hR3
          have HH := Lib.hid hH3
          have Hl3 := Lib.hid hl3
          have HRo := hR
          clear hC3 hP3 hK3 hH3 hmin hnow hR3 hR hl3 hW hI hap hH C2
          go_upto_block 4 with fail
          generalize w3.alloc (.cells #[.int .i64 now] 3) = w4 at *
          generalize w3.heap.size = p14 at *
          go_cut [12, 13] (fun wv nv wx => ∃ (nx : Nat) (wt' : List Nat), nv = .int .i64 (nx : Int) ∧ Hid (PN w wx m w.heap.size bo p7 bf p9 p14 (.slice Aj js.length cap) js.length A vc3 wv c3 free wt' out now) ∧ Hid (TapeM.Reach js.length A (aT js) (lO js) (pA js) ⟨c3, nx, wt', free, out, now, 2⟩) ∧ Hid (c3.length + (js.length - nx) + wt'.length + 1 = mu))
          case first => as_aux_lemma =>
            go_wp2
            go_loopg [12, 13] (js.length - nx) (fun gh wv nv wr => ∃ (nx : Nat) (wt' : List Nat), gh = js.length - nx ∧ nv = .int .i64 (nx : Int) ∧ Hid (PN w wr m w.heap.size bo p7 bf p9 p14 (.slice Aj js.length cap) js.length A vc3 wv c3 free wt' out now) ∧ Hid (TapeM.Reach js.length A (aT js) (lO js) (pA js) ⟨c3, nx, wt', free, out, now, 1⟩) ∧ Hid (c3.length + (js.length - nx) + wt'.length + 1 = mu))
            case atStart => exact ⟨nx, wt, rfl, rfl, HN, HR, Lib.hid (by have := Hl3.out; have := Hmu.out; omega)⟩
            case round =>
              clear HN HR
              obtain ⟨nx2, wt2, rfl, rfl, hN, hR, hm⟩ := hrel
              have hinv := TapeM.reach_inv HO.out.plain hR.out
              have hnx2 : nx2 ≤ js.length := hinv.nxn
              have c2 := hN.out.pw.c2
              have c14 := hN.out.now_
              have Hinv2 := Lib.hid hinv
              clear hinv
              by_cases hx2 : nx2 < js.length
              · have hx2z : (nx2 : Int) < (js.length : Int) := by omega
                obtain ⟨b, off, rfl, hb, hc⟩ := HJ.out nx2 hx2
                obtain ⟨x, hx⟩ : ∃ x, js[nx2]? = some x := ⟨js[nx2], List.getElem?_eq_getElem hx2⟩
                obtain ⟨d0, d1, d2⟩ := hc nx2 x hx
                obtain ⟨e0, e1, e2⟩ := tri_at hx
                rw [← hN.out.pw.since.cell (show b < w.heap.size from hb)] at d0
                rw [← e0] at d0
                clear hc hx e0 e1 e2 d1 d2
                obtain ⟨a, ha⟩ : ∃ a, a = aT js nx2 := ⟨_, rfl⟩
                rw [← ha] at d0
                have Ha := Lib.hid ha
                clear ha
                by_cases hle : a ≤ now
                · have hd : decide (a ≤ now) = true := by simpa using hle
                  have Hle := Lib.hid hle
                  clear hle
                  go_wp2
                  go_quiet (fail)
                  obtain ⟨v8, w8, hrun, h8⟩ := (hN.out.drewN nq).append nx2 (by have := hm.out; omega)
                  have Hrun := Lib.hid hrun
                  have H8 := Lib.hid h8
                  have hR2 := TapeM.Reach.arrive c3 nx2 wt2 free out now hR.out hx2 (by rw [← Ha.out]; exact Hle.out)
                  have HR2 := Lib.hid hR2
                  clear hrun h8 hR2 d0 c2 c14
                  go_wp2_with (at_builtin; refine Lib.wpList_append_run _ rfl _ _ _ _ rfl _ _ rfl rfl _ _ Hrun.out ?_)
                  go_roundg (js.length - (nx2 + 1))
                  case measure => go_light; omega
                  case rel =>
                    go_light
                    exact ⟨nx2 + 1, wt2 ++ [nx2], rfl, by go_num, H8, HR2, Lib.hid (by have := hm.out; rw [List.length_append]; simp; omega)⟩
                · have hd : decide (a ≤ now) = false := by simpa using hle
                  have Hle := Lib.hid (Int.not_le.1 hle)
                  clear hle
                  go_wp2
                  go_quiet (fail)
                  go_wp2
                  go_meet
                  case rel => exact ⟨nx2, wt2, rfl, Lib.hid (hN.out.drewN _), Lib.hid (.arrived c3 nx2 wt2 free out now hR.out (fun _ => by rw [← Ha.out]; exact Hle.out)), hm⟩
              · have hx2z : (js.length : Int) ≤ (nx2 : Int) := by omega
                go_wp2
                go_quiet (fail)
                go_wp2
                go_meet
                case rel => exact ⟨nx2, wt2, rfl, Lib.hid (hN.out.drewN _), Lib.hid (.arrived c3 nx2 wt2 free out now hR.out (fun h => absurd h hx2)), hm⟩
          case rest =>
            obtain ⟨nx2, wt2, rfl, hN, hR, hm⟩ := hcut
            clear HN HR
            have hnx2 : nx2 ≤ js.length := (TapeM.reach_inv HO.out.plain hR.out).nxn
            go_upto_block 6 with fail
            go_cut [12] (fun wv wx => ∃ (wt' : List Nat) (free : List Int) (out : Nat → Int × Int) (vc : Value) (c : List Int), Hid (PN w wx m w.heap.size bo p7 bf p9 p14 (.slice Aj js.length cap) js.length A vc wv c free wt' out now) ∧ Hid (Heap lt 0 c.length c) ∧ Hid (TapeM.Reach js.length A (aT js) (lO js) (pA js) ⟨c, nx2, wt', free, out, now, 3⟩) ∧ Hid (c.length + (js.length - nx2) + wt'.length + 1 = mu))
            case first => as_aux_lemma =>
              go_wp2
              go_loopg [12] wt2.length (fun gh wv wr => ∃ (wt' : List Nat) (free : List Int) (out : Nat → Int × Int) (vc : Value) (c : List Int), gh = wt'.length ∧ Hid (PN w wr m w.heap.size bo p7 bf p9 p14 (.slice Aj js.length cap) js.length A vc wv c free wt' out now) ∧ Hid (Heap lt 0 c.length c) ∧ Hid (TapeM.Reach js.length A (aT js) (lO js) (pA js) ⟨c, nx2, wt', free, out, now, 2⟩) ∧ Hid (c.length + (js.length - nx2) + wt'.length + 1 = mu))
              case atStart => exact ⟨wt2, free, out, vc3, c3, rfl, hN, HH, hR, hm⟩
              case round =>
                clear hN hR hm HH
                obtain ⟨wt', free, out, vc, c, rfl, hN, hH, hR, hm⟩ := hrel
                have hinv := TapeM.reach_inv HO.out.plain hR.out
                have Hinv2 := Lib.hid hinv
                have hfl : free.length = A := hinv.flen
                clear hinv
                obtain ⟨A8, c8, e8, h81, h82⟩ := hN.out.row.form
                rw [natsL_len] at e8 h81
                subst e8
                cases wt' with
                | nil =>
                  go_wp2
                  go_meet
                  case rel => exact ⟨[], free, out, vc, c, hN, hH, Lib.hid (.stop c nx2 [] free out now hR.out (.inl rfl)), hm⟩
                | cons i wt' =>
                  have hlz : (0 : Int) < ((i :: wt').length : Int) := by simp
                  have C3 := IndexFunc_any (some ⟨bf, 0, none⟩) A free 13 #[.pointer (some ⟨p14, 0, none⟩)] (fun t => decide (t ≤ now)) wr enters13 (play1_any hN.out.now_) (IntsAt.row hfl.symm (fun _ _ => rfl) hN.out.pw.rf) (by omega)
                  rw [hfl] at C3
                  have HC3 := Lib.hid C3
                  have Hfl := Lib.hid hfl
                  clear C3 hfl
                  rcases idxP_cases (fun t => decide (t ≤ now)) free with ⟨i1, i2⟩ | ⟨a, t, i1, i2, i3, i4⟩
                  · have HC4 : Hid _ := Lib.hid HC3.out
                    rw [i1] at HC4
                    have hno : ∀ t ∈ free, now < t := fun t ht => by have := i2 t ht; simp at this; omega
                    have Hno := Lib.hid hno
                    clear hno i1 i2 HC3
                    go_wp2_with fail
                    refine HC4.out.mono ?_
                    rintro e w' ⟨rfl, rfl⟩
                    go_wp2
                    go_meet
                    case rel => exact ⟨i :: wt', free, out, vc, c, hN, hH, Lib.hid (.stop c nx2 (i :: wt') free out now hR.out (.inr Hno.out)), hm⟩
                  · rw [i2] at HC3
                    have hi4 : t ≤ now := by simpa using i4
                    have hiw : i < js.length := by have := Hinv2.out.wlt i (by simp); simp only at this; omega
                    obtain ⟨g, o, c9, e9, h91, h92, hx9, hT, hT1⟩ := irow_head (xs := natsL wt') hN.out.row
                    injection e9 with e91 e92 e93
                    subst e91 e93
                    rw [natsL_len] at h91 hT hT1
                    have HT := Lib.hid hT
                    have HT1 := Lib.hid hT1
                    have haA : a < A := by have := Hfl.out; omega
                    have haz : (a : Int) < (A : Int) := by omega
                    have hiz : (i : Int) < (js.length : Int) := by omega
                    have Hi3 := Lib.hid i3
                    have Hi4 := Lib.hid hi4
                    have hl1 : (i :: wt').length = wt'.length + 1 := rfl
                    have h60 : wt'.length + 1 ≤ 180 := by have := hm.out; simp at this; omega
                    rw [hl1] at hlz ⊢
                    clear i1 i2 i3 i4 hi4 hT hT1 h81 h82 hl1 e92
                    go_upto_region 26 with (refine HC3.out.mono ?_; rintro e w' ⟨rfl, rfl⟩)
                    go_cut [12] (fun wv wx => wr = wx ∧ Hid (IRow wx m false wv (natsL wt') ∧ wv.ownBlock = some g))
                    case first => as_aux_lemma =>
                      have hc9z : (wt'.length : Int) + 1 ≤ (c8 : Int) := by omega
                      have hcm : (c8 : Int) ≤ 9223372036854775807 := by unfold maxLen at h92; omega
                      by_cases h1c : c8 = 1
                      · subst h1c
                        have hw0 : wt'.length = 0 := by omega
                        have HT2 := Lib.hid (HT1.out rfl)
                        rw [hw0] at HT2 ⊢
                        go_wp2
                        go_meet
                        case rel => exact ⟨rfl, Lib.hid ⟨HT2.out, rfl⟩⟩
                      · have h1c' : 1 < c8 := by omega
                        go_wp2
                        go_meet
                        case rel => exact ⟨rfl, Lib.hid ⟨HT.out, rfl⟩⟩
                    case rest =>
                      obtain ⟨rfl, hI⟩ := hcut
                      have HN2 := Lib.hid (hN.out.tail hI.out.1 hI.out.2)
                      clear hI HT HT1 hx9
                      have hc7 := HN2.out.pw.c7
                      have hc14 := HN2.out.now_
                      have hr0 := HN2.out.pw.ro.cell (i := i * 2) (by omega)
                      have hr1 := HN2.out.pw.ro.cell (i := i * 2 + 1) (by omega)
                      have hf0 := HN2.out.pw.ro.frozen (i * 2)
                      have hf1 := HN2.out.pw.ro.frozen (i * 2 + 1)
                      generalize fateF out (i * 2) = g0 at hr0
                      generalize fateF out (i * 2 + 1) = g1 at hr1
                      go_upto_region 28 with fail
                      have HN3 := Lib.hid (HN2.out.fate i (a : Int) now)
                      clear hc7 hc14 hr0 hr1 hf0 hf1 HN2
                      generalize (wr.setCell ⟨bo, i * 2, none⟩ (.int .i64 (a : Int))).setCell ⟨bo, i * 2 + 1, none⟩ (.int .i64 now) = wq at *
                      have c2 := HN3.out.pw.c2
                      have c14 := HN3.out.now_
                      have cf := HN3.out.pw.rf.cell haA
                      have ff := HN3.out.pw.rf.frozen a
                      obtain ⟨b, off, hAj, hb, hc⟩ := HJ.out i hiw
                      obtain ⟨x, hx⟩ : ∃ x, js[i]? = some x := ⟨js[i], List.getElem?_eq_getElem hiw⟩
                      obtain ⟨d0, d1, d2⟩ := hc i x hx
                      obtain ⟨e0, e1, e2⟩ := tri_at hx
                      rw [← HN3.out.pw.since.cell (show b < w.heap.size from hb), ← e1] at d1
                      have hlo := HO.out.plain.lo i hiw
                      have hbn := (Hinv2.out.bnd now (.inr (.inr rfl)))
                      generalize free.getD a 0 = f0 at cf
                      obtain ⟨y, hy⟩ : ∃ y, y = lO js i := ⟨_, rfl⟩
                      rw [← hy] at d1 hlo
                      have Hy := Lib.hid hy
                      have hnow : -1 ≤ now ∧ now ≤ 100000000000 := by simp only at hbn; omega
                      clear hc hx d0 d2 e0 e1 e2 hy hbn
                      subst hAj
                      go_region
                      all_goals
                        have HN4 : PN w (wq.setCell ⟨bf, a, none⟩ (.int .i64 (now + y))).drew m w.heap.size bo p7 bf p9 p14 (.slice (some ⟨b, off, none⟩) js.length cap) js.length A vc _ c (free.set a (now + y)) wt' (TapeM.upd out i ((a : Int), now)) now := (HN3.out.set (now + y) (by rw [Hfl.out]; exact haA)).drewN 1
                        have HN5 := Lib.hid HN4
                        have cf2 : (wq.setCell ⟨bf, a, none⟩ (.int .i64 (now + y))).drew.cell? ⟨bf, a, none⟩ = some (.int .i64 (now + y)) := World.cell?_setCell_same _ _ _ cf
                        clear HN4 HN3 cf ff d1 c2 c14
                        generalize (wq.setCell ⟨bf, a, none⟩ (.int .i64 (now + y))).drew = wp at *
                        go_wp2_with fail
                        refine (Push_any HN5.out.pw.clk hH.out HN5.out.pw.ord.2.2.2.2.2.2 (by have := HN5.out.pw.ord; omega) (now + y) (by have := hm.out; omega)).mono ?_
                        rintro e w6 ⟨rfl, vc6, c6, hC6, hP6, hH6, hK6⟩
                        have HN6 := Lib.hid (HN5.out.keeps hK6 hC6)
                        have HH6 := Lib.hid hH6
                        have HR6 := Lib.hid (TapeM.Reach.take c c6 nx2 i wt' free out now a t hR.out Hi3.out Hi4.out (by rw [← Hy.out]; exact hP6.trans (List.perm_append_singleton _ _)))
                        have hl6 : Hid (c6.length = c.length + 1) := Lib.hid (by rw [hP6.length_eq]; simp)
                        clear hK6 hC6 hP6 hH6 HN5
                        go_wp2
                        go_roundg wt'.length
                        case measure => go_light; exact Nat.lt_succ_self _
                        case rel =>
                          go_light
                          refine ⟨wt', free.set a (now + y), TapeM.upd out i ((a : Int), now), vc6, c6, rfl, HN6, HH6, Lib.hid ?_, Lib.hid ?_⟩
                          · rw [Hy.out]; exact HR6.out
                          · have := hm.out; have := hl6.out; simp at *; omega
            case rest =>
              obtain ⟨wt4, free4, out4, vc4, c4, hN4, hH4, hR4, hm4⟩ := hcut
              clear hN hR hm HH
              have hwl : ∀ i ∈ wt4, i < js.length := fun i hi => by have := (TapeM.reach_inv HO.out.plain hR4.out).wlt i hi; simp only at this; omega
              have C6 := Lib.hid (sweep_any HJ.out HO.out hN4.out hwl (by have := hm4.out; omega))
              clear hwl
              go_wp2_with fail
              refine C6.out.mono ?_
              rintro e w8 ⟨vw8, rfl, hN8⟩
              have HN8 := Lib.hid hN8
              have HR8 := Lib.hid (TapeM.Reach.clean c4 nx2 wt4 free4 out4 now hR4.out)
              have hl8 : Hid ((keepN js now wt4).length ≤ wt4.length) := Lib.hid (List.length_filter_le _ _)
              clear hN8 C6 hN4 hR4
              go_wp2
              go_roundg (c4.length + (js.length - nx2) + (keepN js now wt4).length)
              case measure => go_light; have := hm4.out; have := hl8.out; have := Hmu.out; omega
              case rel =>
                go_light
                exact ⟨c4, nx2, keepN js now wt4, free4, outK js wt4 out4 now, now, vc4, rfl, rfl, Lib.hid HN8.out.pw, Lib.hid HN8.out.row, Lib.hid HN8.out.apart, hH4, HR8⟩
end Go.Proofs.Ytpdpninbamgeiaa
