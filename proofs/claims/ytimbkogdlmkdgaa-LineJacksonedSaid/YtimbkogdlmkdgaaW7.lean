/- line: LineJacksoned's walk. -/
import Derived.Test.YtimbkogdlmkdgaaW6
namespace Go.Proofs.Ytimbkogdlmkdgaa
open Go.RowKit PermM StabM LineM

set_option maxHeartbeats 8000000 in
set_option maxRecDepth 100000 in
theorem jacksoned_any {A C : Option Addr} {cap cap2 : Nat} {js : List Tri} {mix : List Int} {w : World} (h : TriAt w A js) (hlen : js.length ≤ 9223372036854775807) (hI : IntsAt w C mix) (hmix : mix.length ≤ 9223372036854775807) :
    Calls Try.prog 4 #[.slice A js.length cap, .slice C mix.length cap2] w (TruePost w) := by
  by_cases h40 : 40 < js.length
  · have h40z : (40 : Int) < (js.length : Int) := by omega
    clear h hI
    go_enter Try.func4, Try.ntmps4
    go_wp2
    go_ret
    exact ⟨rfl, World.Since.refl _ _⟩
  have h40' : js.length ≤ 40 := by omega
  have h40z : (js.length : Int) ≤ 40 := by omega
  by_cases h100 : 100 < mix.length
  · have h100z : (100 : Int) < (mix.length : Int) := by omega
    clear h hI
    go_enter Try.func4, Try.ntmps4
    go_wp2
    go_ret
    exact ⟨rfl, World.Since.refl _ _⟩
  have h100' : mix.length ≤ 100 := by omega
  have h100z : (mix.length : Int) ≤ 100 := by omega
  by_cases t : TasksOk js
  · have HT := Lib.hid t
    have C7 := Lib.hid (Jackson_ok (cap := cap) h t)
    have H := Lib.hid h
    have HI := Lib.hid hI
    clear h hI t h40 h100
    go_enter Try.func4, Try.ntmps4
    go_wp2_with fail
    refine C7.out.mono ?_
    rintro e w1 ⟨hs1, g, f, rfl, hg, hrow, hf⟩
    have Hrow := Lib.hid (row_ints hrow)
    have Hf := Lib.hid hf
    clear hrow hf
    go_wp2_with fail
    refine (done_any _).mono ?_
    rintro e w2 ⟨rfl, hs2⟩
    have hs02 := since_join hs1 hs2
    go_wp2_with fail
    refine (Late_ok (cap := cap) (cap2 := js.length) (H.out.same hs02) HT.out (Hrow.out.since (Nat.le_refl _) hs2) (rowL_perm Hf.out)).mono ?_
    rintro e w3 ⟨hs3, a, rfl, ha⟩
    have hs03 := since_join hs02 hs3
    go_wp2_with fail
    refine (shuffled_any js.length C cap2 mix w3 (by omega) (HI.out.since (Nat.le_refl _) hs03) (by omega)).mono ?_
    rintro e w4 ⟨hs4, rfl, l, hp, hr4⟩
    have hs04 := since_join hs03 hs4
    go_wp2_with fail
    refine (Late_ok (cap := cap) (cap2 := js.length) (H.out.same hs04) HT.out (natsAt hp.len hr4) hp).mono ?_
    rintro e w5 ⟨hs5, b, rfl, hb⟩
    have hs05 := since_join hs04 hs5
    have hle : a ≤ b := by
      rcases ha with ⟨h0, rfl⟩ | ⟨h0, ha⟩ <;> rcases hb with ⟨h1, rfl⟩ | ⟨h1, hb⟩
      · exact Int.le_refl _
      · omega
      · omega
      · exact sorted_jack HT.out Hf.out hp ha hb
    clear ha hb
    clear hr4 hs1 hs2 hs3 hs4 hs5
    go_wp2
    go_ret
    exact ⟨rfl, hs05⟩
  · have C7 := Lib.hid (Jackson_bad (cap := cap) h hlen t)
    clear h hI t h40 h100
    go_enter Try.func4, Try.ntmps4
    go_wp2_with fail
    refine C7.out.mono ?_
    rintro e w1 ⟨hs1, k, rfl⟩
    go_wp2_with fail
    refine (done_any _).mono ?_
    rintro e w2 ⟨rfl, hs2⟩
    go_wp2_with fail
    refine (done_any _).mono ?_
    rintro e w3 ⟨rfl, hs3⟩
    go_wp2
    go_ret
    exact ⟨rfl, since_join (since_join hs1 hs2) hs3⟩
end Go.Proofs.Ytimbkogdlmkdgaa
