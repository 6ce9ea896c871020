/- path: jobs as they come in; path.Check. -/
import Derived.Test.YtekjddcckkelnaaPathM
import Derived.Test.YtekjddcckkelnaaArgs
import Derived.Test.YtekjddcckkelnaaPermM
import Derived.BigQuiet
import Derived.Deep.QuietTactic
namespace Go.Proofs.Ytekjddcckkelnaa
open Go.RowKit PathM

theorem since_mono {w w' : World} {B C : Nat} (h : w.Since C w') (hB : B ≤ C) : w.Since B w' := ⟨h.os, h.tape, h.output, h.size, fun k hk => h.block k (Nat.lt_of_lt_of_le hk hB)⟩
theorem since_join {a w w' : World} (h : a.Since a.heap.size w) (k : w.Since w.heap.size w') : a.Since a.heap.size w' := h.trans (since_mono k h.size)
theorem since_drewN {w wr : World} {B : Nat} (h : w.Since B wr) (n : Nat) : w.Since B (wr.drewN n) := ⟨h.os, h.tape, h.output, h.size, h.block⟩
theorem take_snoc' {α : Type} {xs : List α} {k : Nat} {x : α} (h : xs[k]? = some x) : xs.take (k + 1) = xs.take k ++ [x] := by
  obtain ⟨hk, he⟩ := List.getElem?_eq_some_iff.1 h
  rw [List.take_succ_eq_append_getElem hk, he]
/-- a slice of jobs reads as a list: when, how long, which class -/
abbrev Job := Int × Int × Int
def JobsAt (w : World) (A : Option Addr) (js : List Job) : Prop :=
  ∀ k, k < js.length → ∃ b off, A = some ⟨b, off, none⟩ ∧ b < w.heap.size ∧ ∀ (k : Nat) (x : Job), js[k]? = some x →
    w.cell? ⟨b, off + k * 3, none⟩ = some (.int .i64 x.1) ∧ w.cell? ⟨b, off + k * 3 + 1, none⟩ = some (.int .i64 x.2.1) ∧ w.cell? ⟨b, off + k * 3 + 2, none⟩ = some (.int .i64 x.2.2)
theorem JobsAt.since {w wr : World} {A : Option Addr} {js : List Job} (h : JobsAt w A js) {B : Nat} (hB : w.heap.size ≤ B) (hs : w.Since B wr) : JobsAt wr A js := fun k hk => by
  obtain ⟨b, off, hA, hb, hc⟩ := h k hk
  have := hs.size
  refine ⟨b, off, hA, by omega, fun i x hx => ?_⟩
  obtain ⟨h1, h2, h3⟩ := hc i x hx
  rw [hs.cell (show b < B by omega), hs.cell (show b < B by omega), hs.cell (show b < B by omega)]
  exact ⟨h1, h2, h3⟩
def atJ (js : List Job) (i : Nat) : Int := (js.getD i (0, 0, 0)).1
def szJ (js : List Job) (i : Nat) : Int := (js.getD i (0, 0, 0)).2.1
def clJ (js : List Job) (i : Nat) : Int := (js.getD i (0, 0, 0)).2.2
/-- what Check asks -/
def jobOk (x : Job) : Prop := (0 ≤ x.1 ∧ x.1 ≤ 1000000000) ∧ (1 ≤ x.2.1 ∧ x.2.1 ≤ 1000000000) ∧ 0 ≤ x.2.2 ∧ x.2.2 ≤ 9
structure JobsOk (js : List Job) : Prop where
  few : js.length ≤ 60
  each : ∀ x ∈ js, jobOk x
  row : ∀ i, 0 < i → i < js.length → atJ js (i - 1) ≤ atJ js i
def errV : Option Int → Value
  | none => .nilIface
  | some k => .iface 45 (.int .i64 k)
def ChkPost (js : List Job) (w : World) (e : Ending) (w' : World) : Prop := w.Since w.heap.size w' ∧ ∃ c : Option Int, e = .returned (errV c) ∧ (c = none ↔ JobsOk js)
theorem ChkPost.bad {js : List Job} {w w' : World} (k : Int) (hs : w.Since w.heap.size w') (h : ¬ JobsOk js) : ChkPost js w (.returned (.iface 45 (.int .i64 k))) w' := ⟨hs, some k, rfl, by simp [h]⟩

set_option maxHeartbeats 4000000 in
theorem Check_any (A : Option Addr) (cap : Nat) (js : List Job) (w : World) (h : JobsAt w A js) (hlen : js.length ≤ 9223372036854775807) :
    Calls Try.prog 14 #[.slice A js.length cap] w (ChkPost js w) := by
  by_cases p1 : 60 < js.length
  · go_enter Try.func14, Try.ntmps14
    go_wp2
    go_ret
    exact ChkPost.bad 4 (World.Since.refl _ _) (fun t => by have := t.few; omega)
  have p2 : js.length ≤ 60 := by omega
  clear p1
  go_enter Try.func14, Try.ntmps14
  go_wp2
  go_loopg [11] js.length (fun g i wr => ∃ k : Nat, k ≤ js.length ∧ g = js.length - k ∧ i = .int .i64 k ∧ w.Since w.heap.size wr ∧ Hid ((∀ x ∈ js.take k, jobOk x) ∧ ∀ i, 0 < i → i < k → atJ js (i - 1) ≤ atJ js i))
  case atStart => exact ⟨0, Nat.zero_le _, rfl, rfl, World.Since.refl _ _, Lib.hid ⟨by simp, fun i _ h => by omega⟩⟩
  case round =>
    obtain ⟨k, hk, rfl, rfl, hs, hH⟩ := hrel
    by_cases hkl : k < js.length
    · have hkz : (k : Int) < (js.length : Int) := by omega
      obtain ⟨b, off, rfl, hb, hc⟩ := h k hkl
      obtain ⟨x, hx⟩ : ∃ x, js[k]? = some x := ⟨js[k], List.getElem?_eq_getElem hkl⟩
      obtain ⟨c0, c1, c2⟩ := hc k x hx
      rw [← hs.cell (show b < w.heap.size from hb)] at c0 c1 c2
      have Hx := Lib.hid hx
      have Hc := Lib.hid hc
      clear hx hc
      obtain ⟨x1, x2, x3⟩ := x
      simp only at c0 c1 c2
      have hbad : ¬ jobOk (x1, x2, x3) → ∀ w', w.Since w.heap.size w' → ChkPost js w (.returned (.iface 45 (.int .i64 2))) w' := fun hno w' hs' => ChkPost.bad 2 hs' (fun t => hno (t.each _ (List.mem_of_getElem? Hx.out)))
      by_cases a1 : x1 < 0
      · go_wp2
        go_ret
        exact hbad (fun ⟨⟨(t1 : 0 ≤ x1), (t2 : x1 ≤ 1000000000)⟩, ⟨(t3 : 1 ≤ x2), (t4 : x2 ≤ 1000000000)⟩, (t5 : 0 ≤ x3), (t6 : x3 ≤ 9)⟩ => by omega) _ (hs.alloc hs.size _)
      have a1' : 0 ≤ x1 := by omega
      clear a1
      by_cases a2 : 1000000000 < x1
      · go_wp2
        go_ret
        exact hbad (fun ⟨⟨(t1 : 0 ≤ x1), (t2 : x1 ≤ 1000000000)⟩, ⟨(t3 : 1 ≤ x2), (t4 : x2 ≤ 1000000000)⟩, (t5 : 0 ≤ x3), (t6 : x3 ≤ 9)⟩ => by omega) _ (hs.alloc hs.size _)
      have a2' : x1 ≤ 1000000000 := by omega
      clear a2
      by_cases a3 : x2 < 1
      · go_wp2
        go_ret
        exact hbad (fun ⟨⟨(t1 : 0 ≤ x1), (t2 : x1 ≤ 1000000000)⟩, ⟨(t3 : 1 ≤ x2), (t4 : x2 ≤ 1000000000)⟩, (t5 : 0 ≤ x3), (t6 : x3 ≤ 9)⟩ => by omega) _ (hs.alloc hs.size _)
      have a3' : 1 ≤ x2 := by omega
      clear a3
      by_cases a4 : 1000000000 < x2
      · go_wp2
        go_ret
        exact hbad (fun ⟨⟨(t1 : 0 ≤ x1), (t2 : x1 ≤ 1000000000)⟩, ⟨(t3 : 1 ≤ x2), (t4 : x2 ≤ 1000000000)⟩, (t5 : 0 ≤ x3), (t6 : x3 ≤ 9)⟩ => by omega) _ (hs.alloc hs.size _)
      have a4' : x2 ≤ 1000000000 := by omega
      clear a4
      by_cases a5 : x3 < 0
      · go_wp2
        go_ret
        exact hbad (fun ⟨⟨(t1 : 0 ≤ x1), (t2 : x1 ≤ 1000000000)⟩, ⟨(t3 : 1 ≤ x2), (t4 : x2 ≤ 1000000000)⟩, (t5 : 0 ≤ x3), (t6 : x3 ≤ 9)⟩ => by omega) _ (hs.alloc hs.size _)
      have a5' : 0 ≤ x3 := by omega
      clear a5
      by_cases a6 : 9 < x3
      · go_wp2
        go_ret
        exact hbad (fun ⟨⟨(t1 : 0 ≤ x1), (t2 : x1 ≤ 1000000000)⟩, ⟨(t3 : 1 ≤ x2), (t4 : x2 ≤ 1000000000)⟩, (t5 : 0 ≤ x3), (t6 : x3 ≤ 9)⟩ => by omega) _ (hs.alloc hs.size _)
      have a6' : x3 ≤ 9 := by omega
      clear a6
      have hok : jobOk (x1, x2, x3) := ⟨⟨a1', a2'⟩, ⟨a3', a4'⟩, a5', a6'⟩
      have Hok := Lib.hid hok
      clear hok hbad
      have hev : (∀ x ∈ js.take (k + 1), jobOk x) := by
        rw [take_snoc' Hx.out, List.forall_mem_append]
        exact ⟨hH.out.1, by simpa using Hok.out⟩
      have Hev := Lib.hid hev
      clear hev
      by_cases k0 : k = 0
      · have hkf : decide ((0 : Int) < (k : Int)) = false := decide_eq_false (by omega)
        have hkf' : decide (0 < k) = false := decide_eq_false (by omega)
        have K0 := Lib.hid k0
        clear k0
        go_wp2
        go_quiet (fail)
        go_wp2
        go_roundg (js.length - (k + 1))
        case measure => go_light; omega
        case rel =>
          go_light
          exact ⟨k + 1, by omega, rfl, by go_num, since_drewN (hs.alloc hs.size _) _, Lib.hid ⟨Hev.out, fun i h1 h2 => by have := K0.out; omega⟩⟩
      · obtain ⟨q, rfl⟩ : ∃ q, k = q + 1 := ⟨k - 1, by omega⟩
        obtain ⟨y, hy⟩ : ∃ y, js[q]? = some y := ⟨js[q], List.getElem?_eq_getElem (by omega)⟩
        obtain ⟨d0, _, _⟩ := Hc.out q y hy
        rw [← hs.cell (show b < w.heap.size from hb)] at d0
        have hbw : b < wr.heap.size := by have := hs.size; omega
        have hne : ¬ b = wr.heap.size := by omega
        have ey : atJ js q = y.1 := by unfold atJ; rw [List.getD_eq_getElem?_getD, hy]; rfl
        have ex : atJ js (q + 1) = x1 := by unfold atJ; rw [List.getD_eq_getElem?_getD, Hx.out]; rfl
        have Ey := Lib.hid ey
        have Ex := Lib.hid ex
        clear hy ey ex
        generalize y.1 = y1 at *
        have hqz : (q : Int) < (js.length : Int) := by omega
        have hq0 : (0 : Int) < (q : Int) + 1 := by omega
        by_cases hlt : x1 < y1
        · go_wp2
          go_quiet (fail)
          go_wp2
          go_ret
          exact ChkPost.bad 12 (since_drewN (hs.alloc hs.size _) _) (fun t => by
            have := t.row (q + 1) (by omega) hkl
            rw [Nat.add_sub_cancel, Ex.out, Ey.out] at this
            omega)
        · have hlt' : y1 ≤ x1 := by omega
          have hlf : decide (x1 < y1) = false := by simpa using hlt
          go_wp2
          go_quiet (fail)
          go_wp2
          go_roundg (js.length - (q + 1 + 1))
          case measure => go_light; omega
          case rel =>
            go_light
            refine ⟨q + 1 + 1, by omega, rfl, by go_num, since_drewN (hs.alloc hs.size _) _, Lib.hid ⟨Hev.out, fun i h1 h2 => ?_⟩⟩
            by_cases e : i = q + 1
            · subst e; rw [Nat.add_sub_cancel, Ex.out, Ey.out]; exact hlt'
            · exact hH.out.2 i h1 (by omega)
    · obtain rfl : js.length = k := by omega
      go_wp2
      go_ret
      refine ⟨hs, none, rfl, fun _ => ⟨p2, ?_, hH.out.2⟩, fun _ => rfl⟩
      have := hH.out.1
      rw [List.take_of_length_le (Nat.le_refl _)] at this
      exact this
end Go.Proofs.Ytekjddcckkelnaa
