/- tape: the walk of TapeLindley. -/
import Derived.Test.YtpdpninbamgeiaaW12
import Derived.Deep.AppendLies
namespace Go.Proofs.Ytpdpninbamgeiaa
open Go.RowKit HeapM

def triV (x : Tri) : List Value := [.int .i64 x.1, .int .i64 x.2.1, .int .i64 x.2.2]
def trisV (o : List Tri) : List Value := o.flatMap triV
theorem trisV_len (o : List Tri) : (trisV o).length = o.length * 3 := by
  unfold trisV
  induction o with
  | nil => rfl
  | cons p o ih => rw [List.flatMap_cons, List.length_append, ih]; simp [triV]; omega
theorem trisV_snoc (o : List Tri) (p : Tri) : trisV (o ++ [p]) = trisV o ++ triV p := by simp [trisV]
theorem trisV_get {o : List Tri} {k : Nat} {x : Tri} (h : o[k]? = some x) : (trisV o)[k * 3]? = some (.int .i64 x.1) ∧ (trisV o)[k * 3 + 1]? = some (.int .i64 x.2.1) ∧ (trisV o)[k * 3 + 2]? = some (.int .i64 x.2.2) := by
  induction o generalizing k with
  | nil => simp at h
  | cons q o ih =>
    have e : trisV (q :: o) = triV q ++ trisV o := by simp [trisV]
    rw [e]
    have el : (triV q).length = 3 := rfl
    cases k with
    | zero => simp at h; subst h; exact ⟨rfl, rfl, rfl⟩
    | succ k =>
      simp at h
      obtain ⟨h1, h2, h3⟩ := ih h
      rw [List.getElem?_append_right (by omega), List.getElem?_append_right (by omega), List.getElem?_append_right (by omega), el, show (k + 1) * 3 - 3 = k * 3 by omega, show (k + 1) * 3 + 1 - 3 = k * 3 + 1 by omega, show (k + 1) * 3 + 2 - 3 = k * 3 + 2 by omega]
      exact ⟨h1, h2, h3⟩
theorem own_tris {w : World} {base : Nat} {v : Value} {o : List Tri} (h : w.ownsRow base 32 3 v o.length (trisV o)) {A : Option Addr} {cap : Nat} (hv : v = .slice A o.length cap) : TriAt w A o := fun k hk => by
  obtain ⟨g, cap', hv', _, hg, _, _, hc, _⟩ := own_at h (by omega)
  rw [hv] at hv'
  injection hv' with e1 _ _
  subst e1
  refine ⟨g, 0, rfl, hg, fun k x hx => ?_⟩
  obtain ⟨h1, h2, h3⟩ := trisV_get hx
  rw [Nat.zero_add]
  exact ⟨hc _ _ h1, hc _ _ h2, hc _ _ h3⟩
theorem since_like {w W W' : World} {B : Nat} (h : w.Since B W) (h1 : W'.os = W.os) (h2 : W'.tape = W.tape) (h3 : W'.output = W.output) (h4 : W'.heap = W.heap) : w.Since B W' :=
  ⟨by rw [h1]; exact h.os, by rw [h2]; exact h.tape, by rw [h3]; exact h.output, by rw [h4]; exact h.size, fun k hk => by rw [h4]; exact h.block k hk⟩
theorem info_call : (Try.prog.info? 32).map (fun i => (i.zero, i.size, i.bytes)) = some (some (.agg #[.int .i64 0, .int .i64 0, .int .i64 0]), 3, 24) := by kernel_rfl
def callsOf (js : List Tri) : List Tri := js.map (fun x => (x.1, x.2.1, 1000000000))
theorem callsOf_len (js : List Tri) : (callsOf js).length = js.length := by simp [callsOf]
theorem callsOf_at {js : List Tri} {i : Nat} (hi : i < js.length) : aT (callsOf js) i = aT js i ∧ lO (callsOf js) i = lO js i ∧ pA (callsOf js) i = 1000000000 := by
  obtain ⟨h1, h2, _⟩ := tri_at (List.getElem?_eq_getElem hi)
  obtain ⟨g1, g2, g3⟩ := tri_at (js := callsOf js) (k := i) (x := (js[i].1, js[i].2.1, 1000000000)) (by unfold callsOf; rw [List.getElem?_map, List.getElem?_eq_getElem hi]; rfl)
  exact ⟨by rw [g1, h1], by rw [g2, h2], g3⟩
theorem callsOf_ok {js : List Tri} (h : PJobsOk js) : CallsOk (callsOf js) := by
  refine ⟨by rw [callsOf_len]; exact h.few, fun x hx => ?_, fun i hi => ?_⟩
  · obtain ⟨y, hy, rfl⟩ := List.mem_map.1 hx
    obtain ⟨h1, h2, _⟩ := h.each y hy
    exact ⟨h1, ⟨by have := h2.1; show 0 ≤ y.2.1; omega, h2.2⟩, by show (0 : Int) ≤ 1000000000; omega, by show (1000000000 : Int) ≤ 1000000000; omega⟩
  · rw [callsOf_len] at hi
    rw [(callsOf_at (i := i) (by omega)).1, (callsOf_at (i := i + 1) hi).1]
    have := h.row (i + 1) (by omega) hi
    rw [Nat.add_sub_cancel] at this
    exact this
theorem lind_end {js : List Tri} (h : PJobsOk js) (hw : ∀ i, i < js.length → wt js i ≤ 1000000000) {out : Nat → Int × Int} (hr : ∃ (nx : Nat) (wt : List Nat) (free : List Int) (T : Int), TapeM.Reach (callsOf js).length 1 (aT (callsOf js)) (lO (callsOf js)) (pA (callsOf js)) ⟨[], nx, wt, free, out, T, 0⟩) :
    ∀ i, i < js.length → out i = (0, aT js i + wt js i) := by
  obtain ⟨nx, w, free, T, hr⟩ := hr
  have hl := callsOf_len js
  have := TapeM.reach_lindley (S := fun i => aT js i + wt js i) (callsOf_ok h).plain (fun h0 => ?_) (fun i hi => ?_) (fun i hi => ?_) hr
  · intro i hi
    exact this i (by omega)
  · show aT js 0 + 0 = _
    rw [(callsOf_at (i := 0) (by omega)).1]; omega
  · rw [(callsOf_at (i := i + 1) (by omega)).1, (callsOf_at (i := i) (by omega)).2.1]
    show aT js (i + 1) + max 0 (wt js i + lO js i - (aT js (i + 1) - aT js i)) = _
    omega
  · rw [(callsOf_at (i := i) (by omega)).1, (callsOf_at (i := i) (by omega)).2.2]
    have := hw i (by omega)
    show aT js i + wt js i ≤ _
    omega
theorem callsOf_take {js : List Tri} {k : Nat} {x : Tri} (h : js[k]? = some x) : trisV (callsOf (js.take (k + 1))) = trisV (callsOf (js.take k)) ++ [.int .i64 x.1, .int .i64 x.2.1, .int .i64 1000000000] := by
  rw [take_snocT h]
  unfold callsOf
  rw [List.map_append]
  exact trisV_snoc _ _
set_option maxHeartbeats 8000000 in
set_option maxRecDepth 100000 in
theorem lindley_any {Aj : Option Addr} {cap : Nat} {js : List Tri} {w : World} (h : TriAt w Aj js) (hlen : js.length ≤ 9223372036854775807) :
    Calls Try.prog 4 #[.slice Aj js.length cap] w (TruePost w) := by
  by_cases p1 : 40 < js.length
  · go_enter Try.func4, Try.ntmps4
    go_wp2
    go_ret
    exact ⟨rfl, World.Since.refl _ _⟩
  have p2 : js.length ≤ 40 := by omega
  clear p1
  by_cases hok : PJobsOk js
  · have HP := Lib.hid (Waits_ok Aj cap js w h hok)
    have HJ := Lib.hid h
    have HO := Lib.hid hok
    clear h hok
    go_enter Try.func4, Try.ntmps4
    go_wp2_with fail
    refine HP.out.mono ?_
    rintro e w1 ⟨hs1, v1, rfl, hown1⟩
    have S1 := Lib.hid hs1
    have O1 := Lib.hid hown1
    clear hs1 hown1 HP
    go_wp2_with fail
    refine (called_any w1).mono ?_
    rintro e w2 ⟨rfl, hs2⟩
    have S2 := Lib.hid (since_joinT S1.out hs2)
    have O2 := Lib.hid (own_since' O1.out hs2)
    clear S1 O1 hs2
    obtain ⟨i0, hi0, hz0, hz1, hz2⟩ := info_parts info_call
    have Hi0 := Lib.hid hi0
    have Hz0 := Lib.hid hz0
    have Hz1 := Lib.hid hz1
    have Hz2 := Lib.hid hz2
    clear hi0 hz0 hz1 hz2
    obtain ⟨A1, c1, e1, hc1, _⟩ := own_form O2.out
    subst e1
    clear hc1
    have X1 : Hid (∀ i, i < js.length → ∃ g, A1 = some ⟨g, 0, none⟩ ∧ g < w2.heap.size ∧ ∀ j, j < js.length → w2.cell? ⟨g, j, none⟩ = some (.int .i64 (wt js j))) := Lib.hid (fun i hi => by
      obtain ⟨g, c, hv, _, hg, _, _, hc, _⟩ := own_at O2.out (by omega)
      injection hv with hv
      exact ⟨g, hv, hg, fun j hj => hc j _ (range_get hj (wtV js))⟩)
    go_wp2
    go_loopg [5, 6] js.length (fun gh cv iv wr => ∃ k : Nat, k ≤ js.length ∧ gh = js.length - k ∧ iv = .int .i64 k ∧ Hid (w2.Since w2.heap.size wr) ∧ Hid (wr.ownsRow w2.heap.size 32 3 cv k (trisV (callsOf (js.take k)))) ∧ Hid (∀ i, i < k → wt js i ≤ 1000000000))
    case atStart => exact ⟨0, Nat.zero_le _, rfl, rfl, Lib.hid (World.Since.refl _ _), Lib.hid (World.ownsRow_nil _ _ _ _), Lib.hid (fun i hi => by omega)⟩
    case round =>
      obtain ⟨k, hk, rfl, rfl, hs, hown, hw⟩ := hrel
      obtain ⟨A5, c5, e5, _, _⟩ := own_form hown.out
      subst e5
      have hsz : w2.heap.size ≤ wr.heap.size := hs.out.size
      by_cases hkl : k < js.length
      · have hkz : (k : Int) < (js.length : Int) := by omega
        obtain ⟨b, off, rfl, hb, hc⟩ := HJ.out k hkl
        obtain ⟨x, hx⟩ : ∃ x, js[k]? = some x := ⟨js[k], List.getElem?_eq_getElem hkl⟩
        obtain ⟨d0, d1, _⟩ := hc k x hx
        obtain ⟨e0, e1, _⟩ := tri_at hx
        have hb2 : b < w2.heap.size := by have := S2.out.size; omega
        rw [← S2.out.cell (show b < w.heap.size from hb), ← hs.out.cell (show b < w2.heap.size from hb2)] at d0 d1
        obtain ⟨g1, rfl, hg1, hw1⟩ := X1.out k hkl
        have d3 := hw1 k hkl
        rw [← hs.out.cell (show g1 < w2.heap.size from hg1)] at d3
        obtain ⟨b1, b2⟩ := wt_bd HO.out hkl
        obtain ⟨q, hq⟩ : ∃ q, q = wt js k := ⟨_, rfl⟩
        rw [← hq] at d3 b1 b2
        have Hq := Lib.hid hq
        have Hx := Lib.hid hx
        obtain ⟨⟨b3, b4⟩, b5, b6⟩ := job_bd HO.out hkl
        rw [e0] at b3 b4
        rw [e1] at b5 b6
        obtain ⟨x0, x1, x2⟩ := x
        simp only at d0 d1 b3 b4 b5 b6
        clear hc hx e0 e1 hw1 hq
        by_cases hx1 : 1000000 < x1
        · go_wp2
          go_ret
          exact ⟨rfl, since_joinT S2.out hs.out⟩
        have hx1' : x1 ≤ 1000000 := by omega
        clear hx1
        by_cases hq1 : 1000000000 < q
        · go_wp2
          go_ret
          exact ⟨rfl, since_joinT S2.out hs.out⟩
        have hq1' : q ≤ 1000000000 := by omega
        clear hq1
        have sA : w2.Since w2.heap.size (wr.alloc (.cells #[.int .i64 x0, .int .i64 x1, .int .i64 1000000000] 32)) := hs.out.alloc hs.out.size _
        have oA : (wr.alloc (.cells #[.int .i64 x0, .int .i64 x1, .int .i64 1000000000] 32)).ownsRow w2.heap.size 32 3 (.slice A5 k c5) k (trisV (callsOf (js.take k))) := hown.out.alloc _
        have HsA : Hid (∀ W : World, W.os = (wr.alloc (.cells #[.int .i64 x0, .int .i64 x1, .int .i64 1000000000] 32)).os → W.tape = (wr.alloc (.cells #[.int .i64 x0, .int .i64 x1, .int .i64 1000000000] 32)).tape → W.output = (wr.alloc (.cells #[.int .i64 x0, .int .i64 x1, .int .i64 1000000000] 32)).output → W.heap = (wr.alloc (.cells #[.int .i64 x0, .int .i64 x1, .int .i64 1000000000] 32)).heap → w2.Since w2.heap.size W) := Lib.hid (fun W h1 h2 h3 h4 => since_like sA h1 h2 h3 h4)
        have HoA : Hid (∀ W : World, W.heap = (wr.alloc (.cells #[.int .i64 x0, .int .i64 x1, .int .i64 1000000000] 32)).heap → W.ownsRow w2.heap.size 32 3 (.slice A5 k c5) k (trisV (callsOf (js.take k)))) := Lib.hid (fun W h1 => own_block oA (fun g _ => by rw [h1]))
        have HnA : Hid (∀ W : World, W.heap = (wr.alloc (.cells #[.int .i64 x0, .int .i64 x1, .int .i64 1000000000] 32)).heap → ∀ (j : Nat) (u : Value), [Value.int .i64 x0, .int .i64 x1, .int .i64 1000000000][j]? = some u → W.cell? ((⟨wr.heap.size, 0, none⟩ : Addr).add j) = some u) := Lib.hid (fun W h1 j u hu => by
          rw [World.cell?_of_block (w := wr.alloc (.cells #[.int .i64 x0, .int .i64 x1, .int .i64 1000000000] 32)) (by rw [h1])]
          rw [show (⟨wr.heap.size, 0, none⟩ : Addr).add j = ⟨wr.heap.size, j, none⟩ by unfold Addr.add; split <;> simp_all, World.cell?_alloc_at _ _ _ _ rfl]
          match j with
          | 0 => simpa using hu
          | 1 => simpa using hu
          | 2 => simpa using hu
          | j + 3 => simp at hu)
        have HbA : Hid (∀ W : World, W.heap = (wr.alloc (.cells #[.int .i64 x0, .int .i64 x1, .int .i64 1000000000] 32)).heap → w2.heap.size ≤ W.heap.size) := Lib.hid (fun W h1 => by rw [h1]; simp; omega)
        clear sA oA
        go_upto_region 12 with fail
        clear d3
        go_region_law (refine step_append_lies _ rfl (.tmp 48) (.tmp 60) 22 rfl w2.heap.size 32 i0 _ 3 24 Try.underlying22 Hi0.out Hz0.out Hz1.out Hz2.out rfl (by decide) (.slice A5 k c5) k (trisV (callsOf (js.take k))) (by simp [Act.eval]) (HoA.out _ (by rfl)) ⟨wr.heap.size, 0, none⟩ 1 1 [Value.int .i64 x0, .int .i64 x1, .int .i64 1000000000] (by simp [Act.eval]) rfl (HnA.out _ (by rfl)) (by intro u hu; simp at hu; rcases hu with rfl | rfl | rfl <;> rfl) (by decide) (by unfold maxLen; omega) (by omega) (HbA.out _ (by rfl)) _ rfl ?_; intro g8 c8 w8 h1 h2 h3 h4; have hS8 := own_grown (HsA.out _ (by rfl) (by rfl) (by rfl) (by rfl)) (HoA.out _ (by rfl)) h2 (HbA.out _ (by rfl)); have HS8 := Lib.hid hS8; have HO8 := Lib.hid h1; clear h1 h2 h3 h4 hS8)
        all_goals
          go_wp2
          go_roundg (js.length - (k + 1))
          case measure => go_light; omega
          case rel =>
            go_light
            refine ⟨k + 1, by omega, rfl, by go_num, HS8, Lib.hid ?_, Lib.hid (fun i hi => ?_)⟩
            · rw [callsOf_take Hx.out]; exact HO8.out
            · by_cases e : i = k
              · subst e; rw [← Hq.out]; exact hq1'
              · exact hw.out i (by omega)
      · obtain rfl : js.length = k := by omega
        have hT : TriAt wr A5 (callsOf js) := own_tris (by rw [callsOf_len]; have := hown.out; rw [List.take_of_length_le (Nat.le_refl _)] at this; exact this) (by rw [callsOf_len])
        have HP2 := Lib.hid (Play_ok2 (cap := c5) (A := 1) hT (callsOf_ok HO.out) (by omega))
        rw [callsOf_len] at HP2
        clear hT
        go_wp2_with fail
        refine HP2.out.mono ?_
        rintro e w3 ⟨g, out, rfl, hp⟩
        have HE := Lib.hid (lind_end HO.out hw.out hp.reach)
        have HR : Hid (w3.rowIs g 30 (js.length * 2) (fateF out)) := Lib.hid (by have := hp.row; rw [callsOf_len] at this; exact this)
        have S3 := Lib.hid (since_joinT (since_joinT S2.out hs.out) hp.since)
        have X3 : Hid (∀ i, i < js.length → ∃ g, A1 = some ⟨g, 0, none⟩ ∧ ∀ j, j < js.length → w3.cell? ⟨g, j, none⟩ = some (.int .i64 (wt js j))) := Lib.hid (fun i hi => by
          obtain ⟨g, h1, h2, h3⟩ := X1.out i hi
          refine ⟨g, h1, fun j hj => ?_⟩
          rw [hp.since.cell (show g < wr.heap.size by omega), hs.out.cell (show g < w2.heap.size from h2)]
          exact h3 j hj)
        clear hp HP2 hown hs X1
        go_wp2
        go_loopg [8] js.length (fun gh iv wx => ∃ (k m : Nat), k ≤ js.length ∧ gh = js.length - k ∧ iv = .int .i64 k ∧ wx = w3.drewN m)
        case atStart => exact ⟨0, 0, Nat.zero_le _, rfl, rfl, rfl⟩
        case round =>
          obtain ⟨k, m, hk2, rfl, rfl, rfl⟩ := hrel
          by_cases hkl2 : k < js.length
          · have hkz : (k : Int) < (js.length : Int) := by omega
            obtain ⟨b, off, rfl, hb, hc⟩ := HJ.out k hkl2
            obtain ⟨x, hx⟩ : ∃ x, js[k]? = some x := ⟨js[k], List.getElem?_eq_getElem hkl2⟩
            obtain ⟨d0, _, _⟩ := hc k x hx
            obtain ⟨e0, _, _⟩ := tri_at hx
            rw [← S3.out.cell (show b < w.heap.size from hb)] at d0
            obtain ⟨g1, rfl, hw1⟩ := X3.out k hkl2
            have d3 := hw1 k hkl2
            obtain ⟨b1, b2⟩ := wt_bd HO.out hkl2
            obtain ⟨⟨b3, b4⟩, _, _⟩ := job_bd HO.out hkl2
            obtain ⟨r0, r1⟩ := fate_at HR.out hkl2
            rw [HE.out k hkl2] at r0 r1
            simp only at r0 r1
            rw [← e0] at d0
            generalize wt js k = q at d3 b1 b2 r1
            generalize aT js k = a at d0 b3 b4 r1
            clear hc hx e0 hw1
            go_wp2
            go_quiet (fail)
            go_wp2
            go_roundg (js.length - (k + 1))
            case measure => go_light; omega
            case rel => go_light; exact ⟨k + 1, _, by omega, rfl, by go_num, rfl⟩
          · obtain rfl : js.length = k := by omega
            go_wp2
            go_ret
            exact ⟨rfl, since_drewN S3.out _⟩
  · have HP := Lib.hid (Waits_bad Aj cap js w h hlen hok)
    clear h hok
    go_enter Try.func4, Try.ntmps4
    go_wp2_with fail
    refine HP.out.mono ?_
    rintro e w1 ⟨hs1, k, rfl⟩
    have S1 := Lib.hid hs1
    clear hs1 HP
    go_wp2_with fail
    refine (called_any w1).mono ?_
    rintro e w2 ⟨rfl, hs2⟩
    have S2 := Lib.hid (since_joinT S1.out hs2)
    clear S1 hs2
    go_wp2_with fail
    refine (called_any w2).mono ?_
    rintro e w3 ⟨rfl, hs3⟩
    have S3 := Lib.hid (since_joinT S2.out hs3)
    clear S2 hs3
    go_wp2
    go_ret
    exact ⟨rfl, S3.out⟩
end Go.Proofs.Ytpdpninbamgeiaa
