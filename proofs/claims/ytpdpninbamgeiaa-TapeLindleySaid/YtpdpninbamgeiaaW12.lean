/- tape: path.Check and path.Waits, as TapeLindley calls them. -/
import Derived.Test.YtpdpninbamgeiaaW11
import Derived.Test.YtpdpninbamgeiaaOwnB
namespace Go.Proofs.Ytpdpninbamgeiaa
open Go.RowKit

def jobOk (x : Tri) : Prop := (0 ≤ x.1 ∧ x.1 ≤ 1000000000) ∧ (1 ≤ x.2.1 ∧ x.2.1 ≤ 1000000000) ∧ 0 ≤ x.2.2 ∧ x.2.2 ≤ 9
structure PJobsOk (js : List Tri) : Prop where
  few : js.length ≤ 60
  each : ∀ x ∈ js, jobOk x
  row : ∀ i, 0 < i → i < js.length → aT js (i - 1) ≤ aT js i
def PChkPost (js : List Tri) (w : World) (e : Ending) (w' : World) : Prop := w.Since w.heap.size w' ∧ ∃ c : Option Int, e = .returned (errT c) ∧ (c = none ↔ PJobsOk js)
theorem PChkPost.bad {js : List Tri} {w w' : World} (k : Int) (hs : w.Since w.heap.size w') (h : ¬ PJobsOk js) : PChkPost js w (.returned (.iface 42 (.int .i64 k))) w' := ⟨hs, some k, rfl, by simp [h]⟩
set_option maxHeartbeats 4000000 in
theorem PCheck_any (A : Option Addr) (cap : Nat) (js : List Tri) (w : World) (h : TriAt w A js) (hlen : js.length ≤ 9223372036854775807) :
    Calls Try.prog 16 #[.slice A js.length cap] w (PChkPost js w) := by
  by_cases p1 : 60 < js.length
  · go_enter Try.func16, Try.ntmps16
    go_wp2
    go_ret
    exact PChkPost.bad 4 (World.Since.refl _ _) (fun t => by have := t.few; omega)
  have p2 : js.length ≤ 60 := by omega
  clear p1
  go_enter Try.func16, Try.ntmps16
  go_wp2
  go_loopg [11] js.length (fun g i wr => ∃ k : Nat, k ≤ js.length ∧ g = js.length - k ∧ i = .int .i64 k ∧ w.Since w.heap.size wr ∧ Hid ((∀ x ∈ js.take k, jobOk x) ∧ ∀ i, 0 < i → i < k → aT js (i - 1) ≤ aT js i))
  case atStart => exact ⟨0, Nat.zero_le _, rfl, rfl, World.Since.refl _ _, Lib.hid ⟨by simp, fun i _ h => by omega⟩⟩
  case round =>
    obtain ⟨k, hk, rfl, rfl, hs, hH⟩ := hrel
    by_cases hkl : k < js.length
    · have hkz : (k : Int) < (js.length : Int) := by omega
      obtain ⟨b, off, rfl, hb, hc⟩ := h k hkl
      obtain ⟨x, hx⟩ : ∃ x, js[k]? = some x := ⟨js[k], List.getElem?_eq_getElem hkl⟩
      obtain ⟨c0, c1, c2⟩ := hc k x hx
      rw [← hs.cell (show b < w.heap.size from hb)] at c0 c1 c2
      have Hx := Lib.hid hx
      have Hc := Lib.hid hc
      clear hx hc
      obtain ⟨x1, x2, x3⟩ := x
      simp only at c0 c1 c2
      have hbad : ¬ jobOk (x1, x2, x3) → ∀ w', w.Since w.heap.size w' → PChkPost js w (.returned (.iface 42 (.int .i64 2))) w' := fun hno w' hs' => PChkPost.bad 2 hs' (fun t => hno (t.each _ (List.mem_of_getElem? Hx.out)))
      by_cases a1 : x1 < 0
      · go_wp2
        go_ret
        exact hbad (fun ⟨⟨(t1 : 0 ≤ x1), (t2 : x1 ≤ 1000000000)⟩, ⟨(t3 : 1 ≤ x2), (t4 : x2 ≤ 1000000000)⟩, (t5 : 0 ≤ x3), (t6 : x3 ≤ 9)⟩ => by omega) _ (hs.alloc hs.size _)
      have a1' : 0 ≤ x1 := by omega
      clear a1
      by_cases a2 : 1000000000 < x1
      · go_wp2
        go_ret
        exact hbad (fun ⟨⟨(t1 : 0 ≤ x1), (t2 : x1 ≤ 1000000000)⟩, ⟨(t3 : 1 ≤ x2), (t4 : x2 ≤ 1000000000)⟩, (t5 : 0 ≤ x3), (t6 : x3 ≤ 9)⟩ => by omega) _ (hs.alloc hs.size _)
      have a2' : x1 ≤ 1000000000 := by omega
      clear a2
      by_cases a3 : x2 < 1
      · go_wp2
        go_ret
        exact hbad (fun ⟨⟨(t1 : 0 ≤ x1), (t2 : x1 ≤ 1000000000)⟩, ⟨(t3 : 1 ≤ x2), (t4 : x2 ≤ 1000000000)⟩, (t5 : 0 ≤ x3), (t6 : x3 ≤ 9)⟩ => by omega) _ (hs.alloc hs.size _)
      have a3' : 1 ≤ x2 := by omega
      clear a3
      by_cases a4 : 1000000000 < x2
      · go_wp2
        go_ret
        exact hbad (fun ⟨⟨(t1 : 0 ≤ x1), (t2 : x1 ≤ 1000000000)⟩, ⟨(t3 : 1 ≤ x2), (t4 : x2 ≤ 1000000000)⟩, (t5 : 0 ≤ x3), (t6 : x3 ≤ 9)⟩ => by omega) _ (hs.alloc hs.size _)
      have a4' : x2 ≤ 1000000000 := by omega
      clear a4
      by_cases a5 : x3 < 0
      · go_wp2
        go_ret
        exact hbad (fun ⟨⟨(t1 : 0 ≤ x1), (t2 : x1 ≤ 1000000000)⟩, ⟨(t3 : 1 ≤ x2), (t4 : x2 ≤ 1000000000)⟩, (t5 : 0 ≤ x3), (t6 : x3 ≤ 9)⟩ => by omega) _ (hs.alloc hs.size _)
      have a5' : 0 ≤ x3 := by omega
      clear a5
      by_cases a6 : 9 < x3
      · go_wp2
        go_ret
        exact hbad (fun ⟨⟨(t1 : 0 ≤ x1), (t2 : x1 ≤ 1000000000)⟩, ⟨(t3 : 1 ≤ x2), (t4 : x2 ≤ 1000000000)⟩, (t5 : 0 ≤ x3), (t6 : x3 ≤ 9)⟩ => by omega) _ (hs.alloc hs.size _)
      have a6' : x3 ≤ 9 := by omega
      clear a6
      have hok : jobOk (x1, x2, x3) := ⟨⟨a1', a2'⟩, ⟨a3', a4'⟩, a5', a6'⟩
      have Hok := Lib.hid hok
      clear hok hbad
      have hev : (∀ x ∈ js.take (k + 1), jobOk x) := by
        rw [take_snocT Hx.out, List.forall_mem_append]
        exact ⟨hH.out.1, by simpa using Hok.out⟩
      have Hev := Lib.hid hev
      clear hev
      by_cases k0 : k = 0
      · have hkf : decide ((0 : Int) < (k : Int)) = false := decide_eq_false (by omega)
        have hkf' : decide (0 < k) = false := decide_eq_false (by omega)
        have K0 := Lib.hid k0
        clear k0
        go_wp2
        go_quiet (fail)
        go_wp2
        go_roundg (js.length - (k + 1))
        case measure => go_light; omega
        case rel =>
          go_light
          exact ⟨k + 1, by omega, rfl, by go_num, since_drewN (hs.alloc hs.size _) _, Lib.hid ⟨Hev.out, fun i h1 h2 => by have := K0.out; omega⟩⟩
      · obtain ⟨q, rfl⟩ : ∃ q, k = q + 1 := ⟨k - 1, by omega⟩
        obtain ⟨y, hy⟩ : ∃ y, js[q]? = some y := ⟨js[q], List.getElem?_eq_getElem (by omega)⟩
        obtain ⟨d0, _, _⟩ := Hc.out q y hy
        rw [← hs.cell (show b < w.heap.size from hb)] at d0
        have hbw : b < wr.heap.size := by have := hs.size; omega
        have hne : ¬ b = wr.heap.size := by omega
        have ey : aT js q = y.1 := by unfold aT; rw [List.getD_eq_getElem?_getD, hy]; rfl
        have ex : aT js (q + 1) = x1 := by unfold aT; rw [List.getD_eq_getElem?_getD, Hx.out]; rfl
        have Ey := Lib.hid ey
        have Ex := Lib.hid ex
        clear hy ey ex
        generalize y.1 = y1 at *
        have hqz : (q : Int) < (js.length : Int) := by omega
        have hq0 : (0 : Int) < (q : Int) + 1 := by omega
        by_cases hlt : x1 < y1
        · go_wp2
          go_quiet (fail)
          go_wp2
          go_ret
          exact PChkPost.bad 12 (since_drewN (hs.alloc hs.size _) _) (fun t => by
            have := t.row (q + 1) (by omega) hkl
            rw [Nat.add_sub_cancel, Ex.out, Ey.out] at this
            omega)
        · have hlt' : y1 ≤ x1 := by omega
          have hlf : decide (x1 < y1) = false := by simpa using hlt
          go_wp2
          go_quiet (fail)
          go_wp2
          go_roundg (js.length - (q + 1 + 1))
          case measure => go_light; omega
          case rel =>
            go_light
            refine ⟨q + 1 + 1, by omega, rfl, by go_num, since_drewN (hs.alloc hs.size _) _, Lib.hid ⟨Hev.out, fun i h1 h2 => ?_⟩⟩
            by_cases e : i = q + 1
            · subst e; rw [Nat.add_sub_cancel, Ex.out, Ey.out]; exact hlt'
            · exact hH.out.2 i h1 (by omega)
    · obtain rfl : js.length = k := by omega
      go_wp2
      go_ret
      refine ⟨hs, none, rfl, fun _ => ⟨p2, ?_, hH.out.2⟩, fun _ => rfl⟩
      have := hH.out.1
      rw [List.take_of_length_le (Nat.le_refl _)] at this
      exact this
theorem jobAt {js : List Tri} {k : Nat} {x : Tri} (h : js[k]? = some x) : aT js k = x.1 ∧ lO js k = x.2.1 := ⟨(tri_at h).1, (tri_at h).2.1⟩
def wt (js : List Tri) : Nat → Int
  | 0 => 0
  | i + 1 => max 0 (wt js i + lO js i - (aT js (i + 1) - aT js i))
def wtV (js : List Tri) (i : Nat) : Value := .int .i64 (wt js i)
theorem job_bd {js : List Tri} (h : PJobsOk js) {i : Nat} (hi : i < js.length) : (0 ≤ aT js i ∧ aT js i ≤ 1000000000) ∧ 1 ≤ lO js i ∧ lO js i ≤ 1000000000 := by
  obtain ⟨h1, h2, _⟩ := tri_at (List.getElem?_eq_getElem hi)
  have h3 := h.each _ (List.getElem_mem hi)
  rw [h1, h2]
  exact ⟨h3.1, h3.2.1⟩
theorem wt_bd' {js : List Tri} (h : PJobsOk js) : ∀ {i : Nat}, i < js.length → 0 ≤ wt js i ∧ wt js i ≤ 1000000000 * (i : Int)
  | 0, _ => by simp [wt]
  | i + 1, hi => by
    have h1 := wt_bd' h (i := i) (by omega)
    have h2 := job_bd h (i := i) (by omega)
    have h3 := h.row (i + 1) (by omega) hi
    rw [Nat.add_sub_cancel] at h3
    show 0 ≤ max _ _ ∧ max _ _ ≤ _
    omega
theorem wt_bd {js : List Tri} (h : PJobsOk js) {i : Nat} (hi : i < js.length) : 0 ≤ wt js i ∧ wt js i ≤ 61000000000 := by
  have h1 := wt_bd' h hi
  have := h.few
  omega
def RowPost (n : Nat) (f : Nat → Value) (w : World) (e : Ending) (w' : World) : Prop :=
  w.Since w.heap.size w' ∧ ∃ v, e = .returned (.tuple #[v, .nilIface]) ∧ w'.ownsRow w.heap.size 3 1 v n ((List.range n).map f)
theorem range_snoc (k : Nat) (f : Nat → Value) : (List.range (k + 1)).map f = (List.range k).map f ++ [f k] := by rw [List.range_succ, List.map_append]; rfl
theorem range_get {n k : Nat} (h : k < n) (f : Nat → Value) : ((List.range n).map f)[k]? = some (f k) := by
  rw [List.getElem?_map, List.getElem?_range h]; rfl
set_option maxHeartbeats 4000000 in
theorem Waits_bad (A : Option Addr) (cap : Nat) (js : List Tri) (w : World) (h : TriAt w A js) (hlen : js.length ≤ 9223372036854775807) (hno : ¬ PJobsOk js) :
    Calls Try.prog 7 #[.slice A js.length cap] w (BadPost w) := by
  have hC : Calls Try.prog 16 #[.slice A js.length cap] w fun e w' => w.Since w.heap.size w' ∧ ∃ k : Int, e = .returned (.iface 42 (.int .i64 k)) :=
    (PCheck_any A cap js w h hlen).mono fun e w' ⟨h1, c, h2, h3⟩ => by
      cases c with
      | none => exact absurd (h3.1 rfl) hno
      | some k => exact ⟨h1, k, h2⟩
  have HC := Lib.hid hC
  clear hC h
  go_enter Try.func7, Try.ntmps7
  go_wp2_with fail
  refine HC.out.mono ?_
  rintro e w1 ⟨hs1, k, rfl⟩
  go_wp2
  go_ret2
  exact ⟨hs1, k, rfl⟩
set_option maxHeartbeats 4000000 in
theorem Waits_ok (A : Option Addr) (cap : Nat) (js : List Tri) (w : World) (h : TriAt w A js) (hok : PJobsOk js) :
    Calls Try.prog 7 #[.slice A js.length cap] w (RowPost js.length (wtV js) w) := by
  have hfew := hok.few
  have hC : Calls Try.prog 16 #[.slice A js.length cap] w fun e w' => w.Since w.heap.size w' ∧ e = .returned .nilIface :=
    (PCheck_any A cap js w h (by omega)).mono fun e w' ⟨k1, c, k2, k3⟩ => by
      obtain rfl := k3.2 hok
      exact ⟨k1, k2⟩
  have HC := Lib.hid hC
  have HJ := Lib.hid h
  have HO := Lib.hid hok
  obtain ⟨i0, hi0, hz0, hz1, hz2⟩ := info_parts info_intO
  have Hi0 := Lib.hid hi0
  have Hz0 := Lib.hid hz0
  have Hz1 := Lib.hid hz1
  have Hz2 := Lib.hid hz2
  clear hi0 hz0 hz1 hz2 hC h hok
  go_enter Try.func7, Try.ntmps7
  go_wp2_with fail
  refine HC.out.mono ?_
  rintro e w1 ⟨hs1, rfl⟩
  go_wp2
  go_loopg [5, 15] js.length (fun g v i wr => ∃ k : Nat, k ≤ js.length ∧ g = js.length - k ∧ i = .int .i64 k ∧ w.Since w.heap.size wr ∧ wr.ownsRow w.heap.size 3 1 v k ((List.range k).map (wtV js)))
  case atStart => exact ⟨0, Nat.zero_le _, rfl, rfl, hs1, World.ownsRow_nil _ _ _ _⟩
  case round =>
    clear hs1
    rename_i v
    obtain ⟨k, hk, rfl, rfl, hs, hown⟩ := hrel
    obtain ⟨A5, cap5, rfl, hcap5, _⟩ := own_form hown
    have hsz := hs.size
    by_cases hkl : k < js.length
    · have hkz : (k : Int) < (js.length : Int) := by omega
      obtain ⟨b, off, rfl, hb, hc⟩ := HJ.out k hkl
      obtain ⟨x, hx⟩ : ∃ x, js[k]? = some x := ⟨js[k], List.getElem?_eq_getElem hkl⟩
      obtain ⟨c0, _, _⟩ := hc k x hx
      rw [← hs.cell (show b < w.heap.size from hb)] at c0
      have hat := (jobAt hx).1
      have hwb := wt_bd HO.out hkl
      obtain ⟨wk, hwk⟩ : ∃ z, z = wt js k := ⟨_, rfl⟩
      have Hwk := Lib.hid hwk
      rw [← hwk] at hwb
      by_cases k0 : k = 0
      · have hw0 : wk = 0 := by
          rw [hwk, k0]; rfl
        have hkf : decide ((0 : Int) < (k : Int)) = false := decide_eq_false (by omega)
        have hkf' : decide (0 < k) = false := decide_eq_false (by omega)
        have K0 := Lib.hid k0
        have Hw0 := Lib.hid hw0
        clear k0 hw0 hwk hc hx hat
        have hown2 := hown.alloc (Obj.cells #[Value.int .i64 0] 3)
        go_wp2_with (at_builtin; refine wpList_append_own _ rfl _ _ 35 rfl w.heap.size 3 i0 (.int .i64 0) 1 8 Try.underlying35 Hi0.out Hz0.out Hz1.out Hz2.out rfl (by decide) _ _ _ rfl hown2 ⟨wr.heap.size, 0, none⟩ 1 1 [.int .i64 0] rfl rfl (one_new _ _ _) (by intro u hu; simp at hu; subst hu; rfl) (by unfold maxLen; omega) (by omega) (by simp; omega) ?_; intro v8 w8 hown8 hg8 _)
        have hs8 := own_grown (hs.alloc hs.size (Obj.cells #[Value.int .i64 0] 3)) hown2 hg8 (by simp; omega)
        go_wp2
        go_roundg (js.length - (k + 1))
        case measure => go_light; omega
        case rel =>
          go_light
          refine ⟨k + 1, by omega, rfl, by go_num, hs8, ?_⟩
          rw [range_snoc, show wtV js k = .int .i64 0 by unfold wtV; rw [← Hwk.out, Hw0.out]]
          exact hown8
      · obtain ⟨q, rfl⟩ : ∃ q, k = q + 1 := ⟨k - 1, by omega⟩
        obtain ⟨y, hy⟩ : ∃ y, js[q]? = some y := ⟨js[q], List.getElem?_eq_getElem (by omega)⟩
        obtain ⟨d0, d1, _⟩ := hc q y hy
        rw [← hs.cell (show b < w.heap.size from hb)] at d0 d1
        have hyj := jobAt hy
        have hyo := HO.out.each y (List.mem_of_getElem? hy)
        have hxo := HO.out.each x (List.mem_of_getElem? hx)
        have hwq := wt_bd HO.out (show q < js.length by omega)
        obtain ⟨g, cap', hv, hgb, hglt, _, _, hgc, _⟩ := own_at hown (by omega)
        injection hv with e1 e2 e3
        subst e1 e3
        have gq := hgc q _ (range_get (show q < q + 1 by omega) (wtV js))
        unfold wtV at gq
        have hl : wk = max 0 (wt js q + y.2.1 - (x.1 - y.1)) := by
          rw [hwk]
          show max 0 (wt js q + lO js q - (aT js (q + 1) - aT js q)) = _
          rw [hat, hyj.1, hyj.2]
        obtain ⟨wq, hwq'⟩ : ∃ z, z = wt js q := ⟨_, rfl⟩
        rw [← hwq'] at gq hwq hl
        obtain ⟨x1, x2, x3⟩ := x
        obtain ⟨y1, y2, y3⟩ := y
        obtain ⟨a1, a2, _⟩ := hxo
        obtain ⟨b1, b2, _⟩ := hyo
        simp only at c0 d0 d1 hl a1 a2 b1 b2
        have HL := Lib.hid hl
        clear hc hgc hl hwq' hwk hyj hx hy hat k0 e2
        have hq0 : (0 : Int) < (q : Int) + 1 := by omega
        have hqz : (q : Int) < (js.length : Int) := by omega
        have f1 : 0 ≤ x1 - y1 + 1000000000 := by omega
        have f2 : x1 - y1 ≤ 1000000000 := by omega
        have f3 : wq + y2 ≤ 63000000000 := by omega
        go_wp2
        go_quiet (fail)
        rw [show (if x1 - y1 < wq + y2 then wq + y2 - (x1 - y1) else 0) = wk by rw [HL.out]; split <;> omega]
        have hs2 := since_drewN hs nq
        have hown1 : (wr.drewN nq).ownsRow w.heap.size 3 1 (.slice (some ⟨g, 0, none⟩) (q + 1) cap5) (q + 1) ((List.range (q + 1)).map (wtV js)) := hown
        have hsz2 : w.heap.size ≤ (wr.drewN nq).heap.size := hsz
        clear hown hs hsz c0 d0 d1 gq
        generalize wr.drewN nq = wd at *
        have hown2 := hown1.alloc (Obj.cells #[Value.int .i64 wk] 3)
        go_wp2_with (at_builtin; refine wpList_append_own _ rfl _ _ 35 rfl w.heap.size 3 i0 (.int .i64 0) 1 8 Try.underlying35 Hi0.out Hz0.out Hz1.out Hz2.out rfl (by decide) _ _ _ rfl hown2 ⟨wd.heap.size, 0, none⟩ 1 1 [.int .i64 wk] rfl rfl (one_new _ _ _) (by intro u hu; simp at hu; subst hu; rfl) (by unfold maxLen; omega) (by omega) (by simp; omega) ?_; intro v8 w8 hown8 hg8 _)
        have hs8 := own_grown (hs2.alloc hs2.size (Obj.cells #[Value.int .i64 wk] 3)) hown2 hg8 (by simp; omega)
        go_wp2
        go_roundg (js.length - (q + 1 + 1))
        case measure => go_light; omega
        case rel =>
          go_light
          refine ⟨q + 1 + 1, by omega, rfl, by go_num, hs8, ?_⟩
          rw [range_snoc (q + 1), show wtV js (q + 1) = .int .i64 wk by unfold wtV; rw [← Hwk.out]]
          exact hown8
    · obtain rfl : js.length = k := by omega
      go_wp2
      go_ret2
      exact ⟨hs, _, rfl, hown⟩
end Go.Proofs.Ytpdpninbamgeiaa
