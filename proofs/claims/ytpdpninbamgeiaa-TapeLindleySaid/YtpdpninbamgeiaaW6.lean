/- tape: calls as they come in; tape.Check. -/
import Derived.Test.YtpdpninbamgeiaaW5
import Derived.Test.YtpdpninbamgeiaaTapeM
namespace Go.Proofs.Ytpdpninbamgeiaa
open Go.RowKit

/-- a slice of structs of three ints reads as a list -/
abbrev Tri := Int × Int × Int
def TriAt (w : World) (A : Option Addr) (js : List Tri) : Prop :=
  ∀ k, k < js.length → ∃ b off, A = some ⟨b, off, none⟩ ∧ b < w.heap.size ∧ ∀ (k : Nat) (x : Tri), js[k]? = some x →
    w.cell? ⟨b, off + k * 3, none⟩ = some (.int .i64 x.1) ∧ w.cell? ⟨b, off + k * 3 + 1, none⟩ = some (.int .i64 x.2.1) ∧ w.cell? ⟨b, off + k * 3 + 2, none⟩ = some (.int .i64 x.2.2)
theorem TriAt.since {w wr : World} {A : Option Addr} {js : List Tri} (h : TriAt w A js) {B : Nat} (hB : w.heap.size ≤ B) (hs : w.Since B wr) : TriAt wr A js := fun k hk => by
  obtain ⟨b, off, hA, hb, hc⟩ := h k hk
  have := hs.size
  refine ⟨b, off, hA, by omega, fun i x hx => ?_⟩
  obtain ⟨h1, h2, h3⟩ := hc i x hx
  rw [hs.cell (show b < B by omega), hs.cell (show b < B by omega), hs.cell (show b < B by omega)]
  exact ⟨h1, h2, h3⟩
theorem TriAt.same {w w' : World} {A : Option Addr} {js : List Tri} (h : TriAt w A js) (hs : w.Since w.heap.size w') : TriAt w' A js := h.since (Nat.le_refl _) hs
def aT (js : List Tri) (i : Nat) : Int := (js.getD i (0, 0, 0)).1
def lO (js : List Tri) (i : Nat) : Int := (js.getD i (0, 0, 0)).2.1
def pA (js : List Tri) (i : Nat) : Int := (js.getD i (0, 0, 0)).2.2
theorem tri_at {js : List Tri} {k : Nat} {x : Tri} (h : js[k]? = some x) : aT js k = x.1 ∧ lO js k = x.2.1 ∧ pA js k = x.2.2 := by
  unfold aT lO pA
  rw [List.getD_eq_getElem?_getD, h]
  exact ⟨rfl, rfl, rfl⟩
def callOk (x : Tri) : Prop := (0 ≤ x.1 ∧ x.1 ≤ 1000000000) ∧ (0 ≤ x.2.1 ∧ x.2.1 ≤ 1000000000) ∧ 0 ≤ x.2.2 ∧ x.2.2 ≤ 1000000000
structure CallsOk (js : List Tri) : Prop where
  few : js.length ≤ 60
  each : ∀ x ∈ js, callOk x
  order : ∀ i, i + 1 < js.length → aT js i ≤ aT js (i + 1)
theorem CallsOk.plain {js : List Tri} (h : CallsOk js) : TapeM.Calls js.length (aT js) (lO js) (pA js) := by
  have hb : ∀ i, i < js.length → callOk (aT js i, lO js i, pA js i) := fun i hi => by
    obtain ⟨h1, h2, h3⟩ := tri_at (List.getElem?_eq_getElem hi)
    rw [h1, h2, h3]
    exact h.each _ (List.getElem_mem _)
  exact ⟨h.few, fun i hi => (hb i hi).1, fun i hi => (hb i hi).2.1, fun i hi => (hb i hi).2.2, h.order⟩
def errT : Option Int → Value
  | none => .nilIface
  | some k => .iface 42 (.int .i64 k)
def ChkPost (js : List Tri) (w : World) (e : Ending) (w' : World) : Prop := w.Since w.heap.size w' ∧ ∃ c : Option Int, e = .returned (errT c) ∧ (c = none ↔ CallsOk js)
theorem ChkPost.bad {js : List Tri} {w w' : World} (k : Int) (hs : w.Since w.heap.size w') (h : ¬ CallsOk js) : ChkPost js w (.returned (.iface 42 (.int .i64 k))) w' := ⟨hs, some k, rfl, by simp [h]⟩
theorem take_snocT {js : List Tri} {k : Nat} {x : Tri} (h : js[k]? = some x) : js.take (k + 1) = js.take k ++ [x] := by
  obtain ⟨hk, he⟩ := List.getElem?_eq_some_iff.1 h
  rw [List.take_succ_eq_append_getElem hk, he]

set_option maxHeartbeats 4000000 in
theorem Check_any (A : Option Addr) (cap : Nat) (js : List Tri) (w : World) (h : TriAt w A js) (hlen : js.length ≤ 9223372036854775807) :
    Calls Try.prog 8 #[.slice A js.length cap] w (ChkPost js w) := by
  by_cases p1 : 60 < js.length
  · go_enter Try.func8, Try.ntmps8
    go_wp2
    go_ret
    exact ChkPost.bad 4 (World.Since.refl _ _) (fun t => by have := t.few; omega)
  have p2 : js.length ≤ 60 := by omega
  clear p1
  go_enter Try.func8, Try.ntmps8
  go_wp2
  go_loopg [11] js.length (fun g i wr => ∃ k : Nat, k ≤ js.length ∧ g = js.length - k ∧ i = .int .i64 k ∧ w.Since w.heap.size wr ∧ Hid (∀ x ∈ js.take k, callOk x) ∧ Hid (∀ i, i + 1 < k → aT js i ≤ aT js (i + 1)))
  case atStart => exact ⟨0, Nat.zero_le _, rfl, rfl, World.Since.refl _ _, Lib.hid (by simp), Lib.hid (fun i hi => by omega)⟩
  case round =>
    obtain ⟨k, hk, rfl, rfl, hs, hH, hOr⟩ := hrel
    by_cases hkl : k < js.length
    · have hkz : (k : Int) < (js.length : Int) := by omega
      obtain ⟨b, off, rfl, hb, hc⟩ := h k hkl
      obtain ⟨x, hx⟩ : ∃ x, js[k]? = some x := ⟨js[k], List.getElem?_eq_getElem hkl⟩
      obtain ⟨c0, c1, c2⟩ := hc k x hx
      rw [← hs.cell (show b < w.heap.size from hb)] at c0 c1 c2
      have Hx := Lib.hid hx
      have HC := Lib.hid hc
      clear hx hc
      obtain ⟨x1, x2, x3⟩ := x
      simp only at c0 c1 c2
      have hbad : ¬ callOk (x1, x2, x3) → ∀ w', w.Since w.heap.size w' → ChkPost js w (.returned (.iface 42 (.int .i64 2))) w' := fun hno w' hs' => ChkPost.bad 2 hs' (fun t => hno (t.each _ (List.mem_of_getElem? Hx.out)))
      by_cases a1 : x1 < 0
      · go_wp2
        go_ret
        exact hbad (fun ⟨⟨(t1 : 0 ≤ x1), (t2 : x1 ≤ 1000000000)⟩, ⟨(t3 : 0 ≤ x2), (t4 : x2 ≤ 1000000000)⟩, (t5 : 0 ≤ x3), (t6 : x3 ≤ 1000000000)⟩ => by omega) _ (hs.alloc hs.size _)
      have a1' : 0 ≤ x1 := by omega
      clear a1
      by_cases a2 : 1000000000 < x1
      · go_wp2
        go_ret
        exact hbad (fun ⟨⟨(t1 : 0 ≤ x1), (t2 : x1 ≤ 1000000000)⟩, ⟨(t3 : 0 ≤ x2), (t4 : x2 ≤ 1000000000)⟩, (t5 : 0 ≤ x3), (t6 : x3 ≤ 1000000000)⟩ => by omega) _ (hs.alloc hs.size _)
      have a2' : x1 ≤ 1000000000 := by omega
      clear a2
      by_cases a3 : x2 < 0
      · go_wp2
        go_ret
        exact hbad (fun ⟨⟨(t1 : 0 ≤ x1), (t2 : x1 ≤ 1000000000)⟩, ⟨(t3 : 0 ≤ x2), (t4 : x2 ≤ 1000000000)⟩, (t5 : 0 ≤ x3), (t6 : x3 ≤ 1000000000)⟩ => by omega) _ (hs.alloc hs.size _)
      have a3' : 0 ≤ x2 := by omega
      clear a3
      by_cases a4 : 1000000000 < x2
      · go_wp2
        go_ret
        exact hbad (fun ⟨⟨(t1 : 0 ≤ x1), (t2 : x1 ≤ 1000000000)⟩, ⟨(t3 : 0 ≤ x2), (t4 : x2 ≤ 1000000000)⟩, (t5 : 0 ≤ x3), (t6 : x3 ≤ 1000000000)⟩ => by omega) _ (hs.alloc hs.size _)
      have a4' : x2 ≤ 1000000000 := by omega
      clear a4
      by_cases a5 : x3 < 0
      · go_wp2
        go_ret
        exact hbad (fun ⟨⟨(t1 : 0 ≤ x1), (t2 : x1 ≤ 1000000000)⟩, ⟨(t3 : 0 ≤ x2), (t4 : x2 ≤ 1000000000)⟩, (t5 : 0 ≤ x3), (t6 : x3 ≤ 1000000000)⟩ => by omega) _ (hs.alloc hs.size _)
      have a5' : 0 ≤ x3 := by omega
      clear a5
      by_cases a6 : 1000000000 < x3
      · go_wp2
        go_ret
        exact hbad (fun ⟨⟨(t1 : 0 ≤ x1), (t2 : x1 ≤ 1000000000)⟩, ⟨(t3 : 0 ≤ x2), (t4 : x2 ≤ 1000000000)⟩, (t5 : 0 ≤ x3), (t6 : x3 ≤ 1000000000)⟩ => by omega) _ (hs.alloc hs.size _)
      have a6' : x3 ≤ 1000000000 := by omega
      clear a6 hbad
      have hev : Hid (∀ x ∈ js.take (k + 1), callOk x) := Lib.hid (by
        rw [take_snocT Hx.out, List.forall_mem_append]
        refine ⟨hH.out, ?_⟩
        simp only [List.mem_singleton]
        rintro x rfl
        exact ⟨⟨a1', a2'⟩, ⟨a3', a4'⟩, a5', a6'⟩)
      have hx1 : Hid (aT js k = x1) := Lib.hid (tri_at Hx.out).1
      by_cases hk0 : k = 0
      · have hkf : decide ((0 : Int) < (k : Int)) = false := decide_eq_false (by omega)
        have hkf' : decide (0 < k) = false := decide_eq_false (by omega)
        have K0 := Lib.hid hk0
        clear hk0
        go_wp2
        go_quiet (fail)
        go_wp2
        go_roundg (js.length - (k + 1))
        case measure => go_light; omega
        case rel =>
          go_light
          exact ⟨k + 1, by omega, rfl, by go_num, since_drewN (hs.alloc hs.size _) _, hev, Lib.hid (fun i hi => by have := K0.out; omega)⟩
      · obtain ⟨k', rfl⟩ : ∃ k', k = k' + 1 := ⟨k - 1, by omega⟩
        obtain ⟨y, hy⟩ : ∃ y, js[k']? = some y := ⟨js[k'], List.getElem?_eq_getElem (by omega)⟩
        obtain ⟨d0, _, _⟩ := HC.out k' y hy
        rw [← hs.cell (show b < w.heap.size from hb)] at d0
        have hy1 : Hid (aT js k' = y.1) := Lib.hid (tri_at hy).1
        obtain ⟨y1, _, _⟩ := y
        simp only at d0 hy1
        clear hy
        have hbw : b < wr.heap.size := by have := hs.size; omega
        have hne : ¬ b = wr.heap.size := by omega
        have hk0 : (0 : Int) < (k' : Int) + 1 := by omega
        have hkz2 : (k' : Int) < (js.length : Int) := by omega
        by_cases ho : x1 < y1
        · have hd : decide (x1 < y1) = true := by simpa using ho
          clear hev
          go_wp2
          go_quiet (fail)
          go_wp2
          go_ret
          exact ChkPost.bad 12 (since_drewN (hs.alloc hs.size _) _) (fun t => by have := t.order k' (by omega); rw [hx1.out, hy1.out] at this; omega)
        · have hd : decide (x1 < y1) = false := by simpa using ho
          have hOr2 : Hid (∀ i, i + 1 < k' + 1 + 1 → aT js i ≤ aT js (i + 1)) := Lib.hid (fun i hi => by
            by_cases e : i = k'
            · subst e; rw [hx1.out, hy1.out]; omega
            · exact hOr.out i (by omega))
          go_wp2
          go_quiet (fail)
          go_wp2
          go_roundg (js.length - (k' + 1 + 1))
          case measure => go_light; omega
          case rel =>
            go_light
            exact ⟨k' + 1 + 1, by omega, rfl, by go_num, since_drewN (hs.alloc hs.size _) _, hev, hOr2⟩
    · obtain rfl : js.length = k := by omega
      go_wp2
      go_ret
      refine ⟨hs, none, rfl, fun _ => ⟨p2, ?_, hOr.out⟩, fun _ => rfl⟩
      have := hH.out
      rw [List.take_of_length_le (Nat.le_refl _)] at this
      exact this
theorem Check_ok {A : Option Addr} {cap : Nat} {js : List Tri} {w : World} (h : TriAt w A js) (t : CallsOk js) : Calls Try.prog 8 #[.slice A js.length cap] w fun e w' => w.Since w.heap.size w' ∧ e = .returned .nilIface :=
  (Check_any A cap js w h (by have := t.few; omega)).mono fun e w' ⟨k1, c, k2, k3⟩ => by
    obtain rfl := k3.2 t
    exact ⟨k1, k2⟩
theorem Check_bad {A : Option Addr} {cap : Nat} {js : List Tri} {w : World} (h : TriAt w A js) (hlen : js.length ≤ 9223372036854775807) (t : ¬ CallsOk js) : Calls Try.prog 8 #[.slice A js.length cap] w fun e w' => w.Since w.heap.size w' ∧ ∃ k : Int, e = .returned (.iface 42 (.int .i64 k)) :=
  (Check_any A cap js w h hlen).mono fun e w' ⟨k1, c, k2, k3⟩ => by
    cases c with
    | none => exact absurd (k3.1 rfl) t
    | some k => exact ⟨k1, k, k2⟩
end Go.Proofs.Ytpdpninbamgeiaa
