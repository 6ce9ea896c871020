/- shop: lengths. -/
import Derived.Test.YtjndmehhdgiphaaW4
import Derived.Test.YtjndmehhdgiphaaMcM
namespace Go.Proofs.Ytjndmehhdgiphaa
open Go.RowKit PermM McM

/-- what lengths asks -/
structure LensOk (l : List Int) (M : Int) : Prop where
  lo : 1 ≤ M
  hi : M ≤ 20
  few : l.length ≤ 60
  ok : ∀ x ∈ l, 0 ≤ x ∧ x ≤ 1000000000
def far (x : Int) : Bool := decide (x < 0) || decide (1000000000 < x)
theorem far_any (x : Int) (w : World) : Calls Try.prog 30 #[.int .i64 x] w fun e w' => e = .returned (.bool (far x)) ∧ w = w' := by
  have h : Hid (far x = (decide (x < 0) || decide (1000000000 < x))) := Lib.hid rfl
  by_cases h1 : x < 0
  · go_enter Try.func30, Try.ntmps30
    go_wp2
    go_ret
    exact ⟨by rw [h.out]; simp [h1], rfl⟩
  · have h1' : 0 ≤ x := by omega
    by_cases h2 : 1000000000 < x
    · go_enter Try.func30, Try.ntmps30
      go_wp2
      go_ret
      exact ⟨by rw [h.out]; simp [h2], rfl⟩
    · have h2' : x ≤ 1000000000 := by omega
      go_enter Try.func30, Try.ntmps30
      go_wp2
      go_ret
      exact ⟨by rw [h.out]; simp [h1', h2'], rfl⟩
theorem enters30 : ∀ args w, (callFunc 30 args).run Try.prog w = .ok (.enter 30 args) w := fun _ _ => by kernel_rfl
theorem far_iff (r : List Int) : r.any far = false ↔ ∀ x ∈ r, 0 ≤ x ∧ x ≤ 1000000000 := by simp [far]
def LenPost (l : List Int) (M : Int) (w : World) (e : Ending) (w' : World) : Prop := w = w' ∧ ∃ c : Option Int, e = .returned (errV c) ∧ (c = none ↔ LensOk l M)
theorem LenPost.bad {l : List Int} {M : Int} {w : World} (k : Int) (h : ¬ LensOk l M) : LenPost l M w (.returned (.iface 50 (.int .i64 k))) w := ⟨rfl, some k, rfl, by simp [h]⟩
set_option maxHeartbeats 2000000 in
theorem lengths_any (A : Option Addr) (cap : Nat) (l : List Int) (M : Int) (w : World) (h : IntsAt w A l) (hlen : l.length ≤ 9223372036854775807) :
    Calls Try.prog 21 #[.slice A l.length cap, .int .i64 M] w (LenPost l M w) := by
  by_cases p1 : M < 1
  · go_enter Try.func21, Try.ntmps21
    go_wp2
    go_ret
    exact LenPost.bad 4 (fun t => by have := t.lo; omega)
  have p1' : 1 ≤ M := by omega
  clear p1
  by_cases p2 : 20 < M
  · go_enter Try.func21, Try.ntmps21
    go_wp2
    go_ret
    exact LenPost.bad 4 (fun t => by have := t.hi; omega)
  have p2' : M ≤ 20 := by omega
  clear p2
  by_cases p3 : 60 < l.length
  · have p3z : (60 : Int) < (l.length : Int) := by omega
    go_enter Try.func21, Try.ntmps21
    go_wp2
    go_ret
    exact LenPost.bad 4 (fun t => by have := t.few; omega)
  have p3' : l.length ≤ 60 := by omega
  have p3z : (l.length : Int) ≤ 60 := by omega
  clear p3
  obtain ⟨t, ht⟩ : ∃ t, l.any far = t := ⟨_, rfl⟩
  have c1 := ContainsFunc_any A cap l 30 #[] far w enters30 (fun x => far_any x w) h (by omega)
  rw [ht] at c1
  have C1 := Lib.hid c1
  have Ht := Lib.hid ht
  clear c1 ht h
  cases t
  · go_enter Try.func21, Try.ntmps21
    go_wp2_with fail
    refine C1.out.mono ?_
    rintro e w1 ⟨rfl, rfl⟩
    go_wp2
    go_ret
    exact ⟨rfl, none, rfl, fun _ => ⟨p1', p2', p3', (far_iff l).1 Ht.out⟩, fun _ => rfl⟩
  · go_enter Try.func21, Try.ntmps21
    go_wp2_with fail
    refine C1.out.mono ?_
    rintro e w1 ⟨rfl, rfl⟩
    go_wp2
    go_ret
    exact LenPost.bad 2 (fun t => by have := (far_iff l).2 t.ok; rw [Ht.out] at this; cases this)
theorem lengths_ok {A : Option Addr} {cap : Nat} {l : List Int} {M : Int} {w : World} (h : IntsAt w A l) (t : LensOk l M) :
    Calls Try.prog 21 #[.slice A l.length cap, .int .i64 M] w fun e w' => e = .returned .nilIface ∧ w = w' :=
  (lengths_any A cap l M w h (by have := t.few; omega)).mono fun e w' ⟨hs, c, he, hc⟩ => by
    have := hc.2 t
    subst this
    exact ⟨he, hs⟩
theorem lengths_bad {A : Option Addr} {cap : Nat} {l : List Int} {M : Int} {w : World} (h : IntsAt w A l) (hlen : l.length ≤ 9223372036854775807) (t : ¬ LensOk l M) :
    Calls Try.prog 21 #[.slice A l.length cap, .int .i64 M] w fun e w' => (∃ k : Int, e = .returned (.iface 50 (.int .i64 k))) ∧ w = w' :=
  (lengths_any A cap l M w h hlen).mono fun e w' ⟨hs, c, he, hc⟩ => by
    cases c with
    | none => exact absurd (hc.1 rfl) t
    | some k => exact ⟨⟨k, he⟩, hs⟩
end Go.Proofs.Ytjndmehhdgiphaa
