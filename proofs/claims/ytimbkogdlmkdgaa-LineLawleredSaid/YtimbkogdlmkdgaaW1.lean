/- line: tasks as they come in; line.Check, line.Ends. -/
import Derived.Test.YtimbkogdlmkdgaaShuf
import Derived.Test.YtimbkogdlmkdgaaStabE
import Derived.Test.YtimbkogdlmkdgaaLineM
namespace Go.Proofs.Ytimbkogdlmkdgaa
open Go.RowKit PermM StabM LineM

/-- a slice of structs of three ints reads as a list -/
abbrev Tri := Int × Int × Int
def TriAt (w : World) (A : Option Addr) (js : List Tri) : Prop :=
  ∀ k, k < js.length → ∃ b off, A = some ⟨b, off, none⟩ ∧ b < w.heap.size ∧ ∀ (k : Nat) (x : Tri), js[k]? = some x →
    w.cell? ⟨b, off + k * 3, none⟩ = some (.int .i64 x.1) ∧ w.cell? ⟨b, off + k * 3 + 1, none⟩ = some (.int .i64 x.2.1) ∧ w.cell? ⟨b, off + k * 3 + 2, none⟩ = some (.int .i64 x.2.2)
theorem TriAt.since {w wr : World} {A : Option Addr} {js : List Tri} (h : TriAt w A js) {B : Nat} (hB : w.heap.size ≤ B) (hs : w.Since B wr) : TriAt wr A js := fun k hk => by
  obtain ⟨b, off, hA, hb, hc⟩ := h k hk
  have := hs.size
  refine ⟨b, off, hA, by omega, fun i x hx => ?_⟩
  obtain ⟨h1, h2, h3⟩ := hc i x hx
  rw [hs.cell (show b < B by omega), hs.cell (show b < B by omega), hs.cell (show b < B by omega)]
  exact ⟨h1, h2, h3⟩
theorem since_drewN {w wr : World} {B : Nat} (h : w.Since B wr) (n : Nat) : w.Since B (wr.drewN n) := ⟨h.os, h.tape, h.output, h.size, h.block⟩
theorem TriAt.same {w w' : World} {A : Option Addr} {js : List Tri} (h : TriAt w A js) (hs : w.Since w.heap.size w') : TriAt w' A js := h.since (Nat.le_refl _) hs
def lg (js : List Tri) (i : Nat) : Int := (js.getD i (0, 0, 0)).1
def wg (js : List Tri) (i : Nat) : Int := (js.getD i (0, 0, 0)).2.1
def du (js : List Tri) (i : Nat) : Int := (js.getD i (0, 0, 0)).2.2
theorem tri_at {js : List Tri} {k : Nat} {x : Tri} (h : js[k]? = some x) : lg js k = x.1 ∧ wg js k = x.2.1 ∧ du js k = x.2.2 := by
  unfold lg wg du
  rw [List.getD_eq_getElem?_getD, h]
  exact ⟨rfl, rfl, rfl⟩
def taskOk (x : Tri) : Prop := (0 ≤ x.1 ∧ x.1 ≤ 1000000000) ∧ (0 ≤ x.2.1 ∧ x.2.1 ≤ 10000) ∧ 0 ≤ x.2.2 ∧ x.2.2 ≤ 1000000000
structure TasksOk (js : List Tri) : Prop where
  few : js.length ≤ 60
  each : ∀ x ∈ js, taskOk x
theorem task_bd {js : List Tri} (h : TasksOk js) (i : Nat) : (0 ≤ lg js i ∧ lg js i ≤ 1000000000) ∧ (0 ≤ wg js i ∧ wg js i ≤ 10000) ∧ 0 ≤ du js i ∧ du js i ≤ 1000000000 := by
  by_cases hi : i < js.length
  · have hx : js[i]? = some js[i] := List.getElem?_eq_getElem hi
    obtain ⟨h1, h2, h3⟩ := tri_at hx
    rw [h1, h2, h3]
    exact h.each _ (List.getElem_mem _)
  · have : js.getD i (0, 0, 0) = (0, 0, 0) := by rw [List.getD_eq_getElem?_getD, List.getElem?_eq_none (by omega)]; rfl
    unfold lg wg du
    rw [this]
    decide
def ChkPost (js : List Tri) (w : World) (e : Ending) (w' : World) : Prop := w.Since w.heap.size w' ∧ ∃ c : Option Int, e = .returned (errV c) ∧ (c = none ↔ TasksOk js)
theorem ChkPost.bad {js : List Tri} {w w' : World} (k : Int) (hs : w.Since w.heap.size w') (h : ¬ TasksOk js) : ChkPost js w (.returned (.iface 46 (.int .i64 k))) w' := ⟨hs, some k, rfl, by simp [h]⟩

set_option maxHeartbeats 4000000 in
theorem Check_any (A : Option Addr) (cap : Nat) (js : List Tri) (w : World) (h : TriAt w A js) (hlen : js.length ≤ 9223372036854775807) :
    Calls Try.prog 23 #[.slice A js.length cap] w (ChkPost js w) := by
  by_cases p1 : 60 < js.length
  · go_enter Try.func23, Try.ntmps23
    go_wp2
    go_ret
    exact ChkPost.bad 4 (World.Since.refl _ _) (fun t => by have := t.few; omega)
  have p2 : js.length ≤ 60 := by omega
  clear p1
  go_enter Try.func23, Try.ntmps23
  go_wp2
  go_loopg [11] js.length (fun g i wr => ∃ k : Nat, k ≤ js.length ∧ g = js.length - k ∧ i = .int .i64 k ∧ w.Since w.heap.size wr ∧ Hid (∀ x ∈ js.take k, taskOk x))
  case atStart => exact ⟨0, Nat.zero_le _, rfl, rfl, World.Since.refl _ _, Lib.hid (by simp)⟩
  case round =>
    obtain ⟨k, hk, rfl, rfl, hs, hH⟩ := hrel
    by_cases hkl : k < js.length
    · have hkz : (k : Int) < (js.length : Int) := by omega
      obtain ⟨b, off, rfl, hb, hc⟩ := h k hkl
      obtain ⟨x, hx⟩ : ∃ x, js[k]? = some x := ⟨js[k], List.getElem?_eq_getElem hkl⟩
      obtain ⟨c0, c1, c2⟩ := hc k x hx
      rw [← hs.cell (show b < w.heap.size from hb)] at c0 c1 c2
      have Hx := Lib.hid hx
      clear hx hc
      obtain ⟨x1, x2, x3⟩ := x
      simp only at c0 c1 c2
      have hbad : ¬ taskOk (x1, x2, x3) → ∀ w', w.Since w.heap.size w' → ChkPost js w (.returned (.iface 46 (.int .i64 2))) w' := fun hno w' hs' => ChkPost.bad 2 hs' (fun t => hno (t.each _ (List.mem_of_getElem? Hx.out)))
      by_cases a1 : x1 < 0
      · go_wp2
        go_ret
        exact hbad (fun ⟨⟨(t1 : 0 ≤ x1), (t2 : x1 ≤ 1000000000)⟩, ⟨(t3 : 0 ≤ x2), (t4 : x2 ≤ 10000)⟩, (t5 : 0 ≤ x3), (t6 : x3 ≤ 1000000000)⟩ => by omega) _ (hs.alloc hs.size _)
      have a1' : 0 ≤ x1 := by omega
      clear a1
      by_cases a2 : 1000000000 < x1
      · go_wp2
        go_ret
        exact hbad (fun ⟨⟨(t1 : 0 ≤ x1), (t2 : x1 ≤ 1000000000)⟩, ⟨(t3 : 0 ≤ x2), (t4 : x2 ≤ 10000)⟩, (t5 : 0 ≤ x3), (t6 : x3 ≤ 1000000000)⟩ => by omega) _ (hs.alloc hs.size _)
      have a2' : x1 ≤ 1000000000 := by omega
      clear a2
      by_cases a3 : x2 < 0
      · go_wp2
        go_ret
        exact hbad (fun ⟨⟨(t1 : 0 ≤ x1), (t2 : x1 ≤ 1000000000)⟩, ⟨(t3 : 0 ≤ x2), (t4 : x2 ≤ 10000)⟩, (t5 : 0 ≤ x3), (t6 : x3 ≤ 1000000000)⟩ => by omega) _ (hs.alloc hs.size _)
      have a3' : 0 ≤ x2 := by omega
      clear a3
      by_cases a4 : 10000 < x2
      · go_wp2
        go_ret
        exact hbad (fun ⟨⟨(t1 : 0 ≤ x1), (t2 : x1 ≤ 1000000000)⟩, ⟨(t3 : 0 ≤ x2), (t4 : x2 ≤ 10000)⟩, (t5 : 0 ≤ x3), (t6 : x3 ≤ 1000000000)⟩ => by omega) _ (hs.alloc hs.size _)
      have a4' : x2 ≤ 10000 := by omega
      clear a4
      by_cases a5 : x3 < 0
      · go_wp2
        go_ret
        exact hbad (fun ⟨⟨(t1 : 0 ≤ x1), (t2 : x1 ≤ 1000000000)⟩, ⟨(t3 : 0 ≤ x2), (t4 : x2 ≤ 10000)⟩, (t5 : 0 ≤ x3), (t6 : x3 ≤ 1000000000)⟩ => by omega) _ (hs.alloc hs.size _)
      have a5' : 0 ≤ x3 := by omega
      clear a5
      by_cases a6 : 1000000000 < x3
      · go_wp2
        go_ret
        exact hbad (fun ⟨⟨(t1 : 0 ≤ x1), (t2 : x1 ≤ 1000000000)⟩, ⟨(t3 : 0 ≤ x2), (t4 : x2 ≤ 10000)⟩, (t5 : 0 ≤ x3), (t6 : x3 ≤ 1000000000)⟩ => by omega) _ (hs.alloc hs.size _)
      have a6' : x3 ≤ 1000000000 := by omega
      clear a6 hbad
      have hev : Hid (∀ x ∈ js.take (k + 1), taskOk x) := Lib.hid (by
        rw [take_snoc' Hx.out, List.forall_mem_append]
        refine ⟨hH.out, ?_⟩
        simp only [List.mem_singleton]
        rintro x rfl
        exact ⟨⟨a1', a2'⟩, ⟨a3', a4'⟩, a5', a6'⟩)
      go_wp2
      go_roundg (js.length - (k + 1))
      case measure => go_light; omega
      case rel =>
        go_light
        exact ⟨k + 1, by omega, rfl, by go_num, hs.alloc hs.size _, hev⟩
    · obtain rfl : js.length = k := by omega
      go_wp2
      go_ret
      refine ⟨hs, none, rfl, fun _ => ⟨p2, ?_⟩, fun _ => rfl⟩
      have := hH.out
      rw [List.take_of_length_le (Nat.le_refl _)] at this
      exact this
theorem Check_ok {A : Option Addr} {cap : Nat} {js : List Tri} {w : World} (h : TriAt w A js) (t : TasksOk js) : Calls Try.prog 23 #[.slice A js.length cap] w fun e w' => w.Since w.heap.size w' ∧ e = .returned .nilIface :=
  (Check_any A cap js w h (by have := t.few; omega)).mono fun e w' ⟨k1, c, k2, k3⟩ => by
    obtain rfl := k3.2 t
    exact ⟨k1, k2⟩
theorem Check_bad {A : Option Addr} {cap : Nat} {js : List Tri} {w : World} (h : TriAt w A js) (hlen : js.length ≤ 9223372036854775807) (t : ¬ TasksOk js) : Calls Try.prog 23 #[.slice A js.length cap] w fun e w' => w.Since w.heap.size w' ∧ ∃ k : Int, e = .returned (.iface 46 (.int .i64 k)) :=
  (Check_any A cap js w h hlen).mono fun e w' ⟨k1, c, k2, k3⟩ => by
    cases c with
    | none => exact absurd (k3.1 rfl) t
    | some k => exact ⟨k1, k, k2⟩
end Go.Proofs.Ytimbkogdlmkdgaa
