/- line: Tardy; Moore where the tasks don't fit. -/
import Derived.Test.YtimbkogdlmkdgaaW6
import Derived.Test.YtimbkogdlmkdgaaMooreM
namespace Go.Proofs.Ytimbkogdlmkdgaa
open Go.RowKit PermM StabM LineM

def TardyPost (js : List Tri) (l : List Nat) (w : World) (e : Ending) (w' : World) : Prop := w.Since w.heap.size w' ∧ e = .returned (.tuple #[.int .i64 (lateN (lg js) (du js) js.length l : Nat), .nilIface])
theorem late_snoc (p d : Nat → Int) (l : List Nat) (k : Nat) : lateN p d (k + 1) l = lateN p d k l + (if d k < endIn p 0 l k then 1 else 0) := by
  unfold lateN
  rw [List.range_succ, List.filter_append, List.length_append]
  by_cases h : d k < endIn p 0 l k <;> simp [h]
theorem late_le (p d : Nat → Int) (l : List Nat) (k : Nat) : lateN p d k l ≤ k := by
  have := List.length_filter_le (fun i => decide (d i < endIn p 0 l i)) (List.range k)
  rw [List.length_range] at this
  exact this
set_option maxHeartbeats 4000000 in
theorem Tardy_ok {A : Option Addr} {cap : Nat} {js : List Tri} {A2 : Option Addr} {cap2 : Nat} {l : List Nat} {w : World} (h : TriAt w A js) (t : TasksOk js) (h2 : IntsAt w A2 (ints l)) (hp : IsPerm js.length l) :
    Calls Try.prog 16 #[.slice A js.length cap, .slice A2 js.length cap2] w (TardyPost js l w) := by
  have hfew := t.few
  have C := Lib.hid (Ends_ok (cap := cap) (cap2 := cap2) h t h2 hp)
  have HJ := Lib.hid h
  clear h t h2 hp
  go_enter Try.func16, Try.ntmps16
  go_wp2_with fail
  refine C.out.mono ?_
  rintro e w1 ⟨hs1, g, rfl, hg, hrow⟩
  go_wp2
  go_loopg [8, 18] js.length (fun gh sv iv wr => ∃ (k m v : Nat), k ≤ js.length ∧ gh = js.length - k ∧ iv = .int .i64 k ∧ sv = .int .i64 v ∧ v ≤ k ∧ Hid (v = lateN (lg js) (du js) k l) ∧ wr = w1.drewN m)
  case atStart => exact ⟨0, 0, 0, Nat.zero_le _, rfl, rfl, rfl, Nat.le_refl _, Lib.hid rfl, rfl⟩
  case round =>
    obtain ⟨k, m, v, hk, rfl, rfl, rfl, hvk, hv, rfl⟩ := hrel
    by_cases hkl : k < js.length
    · have hkz : (k : Int) < (js.length : Int) := by omega
      obtain ⟨b, off, rfl, hb, hc⟩ := HJ.out k hkl
      obtain ⟨y, hy⟩ : ∃ y, js[k]? = some y := ⟨js[k], List.getElem?_eq_getElem hkl⟩
      obtain ⟨_, _, c2⟩ := hc k y hy
      rw [← hs1.cell (show b < w.heap.size from hb)] at c2
      have hdu := (tri_at hy).2.2
      have g1 := hrow.cell hkl
      have hst := late_snoc (lg js) (du js) l k
      rw [hdu, ← hv.out] at hst
      generalize y.2.2 = y3 at *
      generalize endIn (lg js) 0 l k = ek at *
      clear hc hy hdu
      by_cases hlt : y3 < ek
      · rw [if_pos hlt] at hst
        have Hst := Lib.hid hst
        clear hst
        go_wp2
        go_quiet (fail)
        go_wp2
        go_roundg (js.length - (k + 1))
        case measure => go_light; omega
        case rel =>
          go_light
          exact ⟨k + 1, _, v + 1, by omega, rfl, by go_num, by go_num, by omega, Lib.hid Hst.out.symm, rfl⟩
      · have hge : ek ≤ y3 := by omega
        rw [if_neg hlt] at hst
        have Hst := Lib.hid hst
        clear hst hlt
        go_wp2
        go_quiet (fail)
        go_wp2
        go_roundg (js.length - (k + 1))
        case measure => go_light; omega
        case rel =>
          go_light
          exact ⟨k + 1, _, v, by omega, rfl, by go_num, rfl, by omega, Lib.hid Hst.out.symm, rfl⟩
    · obtain rfl : js.length = k := by omega
      have hv' := hv.out
      subst hv'
      go_wp2
      go_ret2
      exact ⟨since_drewN hs1 m, rfl⟩
theorem Moore_bad {A : Option Addr} {cap : Nat} {js : List Tri} {w : World} (h : TriAt w A js) (hlen : js.length ≤ 9223372036854775807) (t : ¬ TasksOk js) : Calls Try.prog 15 #[.slice A js.length cap] w (BadPost w) := by
  have C := Lib.hid (Jackson_bad (cap := cap) h hlen t)
  clear h t
  go_enter Try.func15, Try.ntmps15
  go_wp2_with fail
  refine C.out.mono ?_
  rintro e w5 ⟨hs, k, rfl⟩
  go_wp2
  go_ret2
  exact ⟨hs, k, rfl⟩
end Go.Proofs.Ytimbkogdlmkdgaa
