/- line: LineMoored's walk. -/
import Derived.Test.YtimbkogdlmkdgaaW9
namespace Go.Proofs.Ytimbkogdlmkdgaa
open Go.RowKit PermM StabM LineM

theorem moore_perm {js : List Tri} {f : Nat → Nat} (h : SortPost (cfL jackF js) js.length 0 js.length (fun i => i) f) {on off : List Nat} (hst : MooreSt (lg js) (du js) (rowL js.length f) on off) : IsPerm js.length (on ++ off) := by
  have hp := rowL_perm h
  exact ⟨by rw [hst.perm.length_eq]; exact hp.len, hst.perm.nodup_iff.2 hp.nodup, fun x hx => hp.lt x (hst.perm.mem_iff.1 hx)⟩
theorem moored_le {js : List Tri} (t : TasksOk js) {f : Nat → Nat} (h : SortPost (cfL jackF js) js.length 0 js.length (fun i => i) f) {on off : List Nat} (hst : MooreSt (lg js) (du js) (rowL js.length f) on off) {l : List Nat} (hl : IsPerm js.length l) :
    lateN (lg js) (du js) js.length (on ++ off) ≤ lateN (lg js) (du js) js.length l :=
  moore (fun i => (task_bd t i).1.1) ((rowL_sorted h).imp jack_le) (perm_range (rowL_perm h)) hst (perm_range hl)
set_option maxHeartbeats 8000000 in
set_option maxRecDepth 100000 in
theorem moored_any {A C : Option Addr} {cap cap2 : Nat} {js : List Tri} {mix : List Int} {w : World} (h : TriAt w A js) (hlen : js.length ≤ 9223372036854775807) (hI : IntsAt w C mix) (hmix : mix.length ≤ 9223372036854775807) :
    Calls Try.prog 6 #[.slice A js.length cap, .slice C mix.length cap2] w (TruePost w) := by
  by_cases h40 : 40 < js.length
  · have h40z : (40 : Int) < (js.length : Int) := by omega
    clear h hI
    go_enter Try.func6, Try.ntmps6
    go_wp2
    go_ret
    exact ⟨rfl, World.Since.refl _ _⟩
  have h40' : js.length ≤ 40 := by omega
  have h40z : (js.length : Int) ≤ 40 := by omega
  by_cases h100 : 100 < mix.length
  · have h100z : (100 : Int) < (mix.length : Int) := by omega
    clear h hI
    go_enter Try.func6, Try.ntmps6
    go_wp2
    go_ret
    exact ⟨rfl, World.Since.refl _ _⟩
  have h100' : mix.length ≤ 100 := by omega
  have h100z : (mix.length : Int) ≤ 100 := by omega
  by_cases t : TasksOk js
  · have HT := Lib.hid t
    have C7 := Lib.hid (Moore_ok (cap := cap) h t)
    have H := Lib.hid h
    have HI := Lib.hid hI
    clear h hI t h40 h100
    go_enter Try.func6, Try.ntmps6
    go_wp2_with fail
    refine C7.out.mono ?_
    rintro e w1 ⟨f, hf, hs1, on, off, A1, cap1, rfl, hst, hrow⟩
    have Hpl := Lib.hid (moore_perm hf hst)
    have Hrow := Lib.hid hrow
    have Hf := Lib.hid hf
    have Hst := Lib.hid hst
    clear hrow hf hst
    go_wp2_with fail
    refine (done_any _).mono ?_
    rintro e w2 ⟨rfl, hs2⟩
    have hs02 := since_join hs1 hs2
    go_wp2_with fail
    refine (Tardy_ok (cap := cap) (cap2 := cap1) (H.out.same hs02) HT.out (Hrow.out.since (Nat.le_refl _) hs2) Hpl.out).mono ?_
    rintro e w3 ⟨hs3, rfl⟩
    have hs03 := since_join hs02 hs3
    go_wp2_with fail
    refine (shuffled_any js.length C cap2 mix w3 (by omega) (HI.out.since (Nat.le_refl _) hs03) (by omega)).mono ?_
    rintro e w4 ⟨hs4, rfl, l, hp, hr4⟩
    have hs04 := since_join hs03 hs4
    go_wp2_with fail
    refine (Tardy_ok (cap := cap) (cap2 := js.length) (H.out.same hs04) HT.out (natsAt hp.len hr4) hp).mono ?_
    rintro e w5 ⟨hs5, rfl⟩
    have hs05 := since_join hs04 hs5
    have hle := moored_le HT.out Hf.out Hst.out hp
    generalize lateN (lg js) (du js) js.length (on ++ off) = a at *
    generalize lateN (lg js) (du js) js.length l = b at *
    have hlez : (a : Int) ≤ (b : Int) := by omega
    clear hr4 hs1 hs2 hs3 hs4 hs5
    go_wp2
    go_ret
    exact ⟨rfl, hs05⟩
  · have C7 := Lib.hid (Moore_bad (cap := cap) h hlen t)
    clear h hI t h40 h100
    go_enter Try.func6, Try.ntmps6
    go_wp2_with fail
    refine C7.out.mono ?_
    rintro e w1 ⟨hs1, k, rfl⟩
    go_wp2_with fail
    refine (done_any _).mono ?_
    rintro e w2 ⟨rfl, hs2⟩
    go_wp2_with fail
    refine (done_any _).mono ?_
    rintro e w3 ⟨rfl, hs3⟩
    go_wp2
    go_ret
    exact ⟨rfl, since_join (since_join hs1 hs2) hs3⟩
end Go.Proofs.Ytimbkogdlmkdgaa
