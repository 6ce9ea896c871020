/- TripShortest's walk: whatever comes, true; nothing that was there turns. -/
import Derived.Test.YtlopcegpolpndaaW10
import Derived.Test.YtlopcegpolpndaaW8
namespace Go.Proofs.Ytlopcegpolpndaa
open Go.RowKit PermM TripM

set_option maxHeartbeats 8000000 in
set_option maxRecDepth 100000 in
theorem shortest_any {A C : Option Addr} {cap cap2 : Nat} {m : List (List Int)} {mix : List Int} {w : World} (h : MapAt w A m) (hlen : m.length ≤ 9223372036854775807) (hrl : ∀ r ∈ m, r.length ≤ 9223372036854775807) (hI : IntsAt w C mix) (hmix : mix.length ≤ 9223372036854775807) :
    Calls Try.prog 3 #[.slice A m.length cap, .slice C mix.length cap2] w (TruePost w) := by
  go_enter Try.func3, Try.ntmps3
  go_wp2_with fail
  refine (numbers_any h (by omega) hrl).mono ?_
  rintro e w0 ⟨rfl, r, rfl, hR⟩
  by_cases hr60 : 60 < r
  · go_wp2
    go_ret
    exact ⟨rfl, World.Since.refl _ _⟩
  have hr60' : r ≤ 60 := by omega
  by_cases hm50 : 50 < mix.length
  · have hm50z : (50 : Int) < (mix.length : Int) := by omega
    go_wp2
    go_ret
    exact ⟨rfl, World.Since.refl _ _⟩
  have hm50' : mix.length ≤ 50 := by omega
  have hm50z : (mix.length : Int) ≤ 50 := by omega
  have HR := Lib.hid (fun t => few_of t (hR t) hr60')
  clear hR hr60 hm50
  go_wp2_with fail
  refine (Round_any h hlen hrl HR.out).mono ?_
  rintro e w1 ⟨hs1, ⟨_, k, rfl⟩ | ⟨t, v, l, rfl, hown, hpl, _, hmin⟩⟩
  · go_wp2_with fail
    refine (around_any _).mono ?_
    rintro e w3 ⟨rfl, hs3⟩
    go_wp2_with fail
    refine (around_any _).mono ?_
    rintro e w4 ⟨rfl, hs4⟩
    go_wp2
    go_ret
    exact ⟨rfl, since_join (since_join hs1 hs3) hs4⟩
  have hfew := t.few
  have hln := hpl.len
  have hown' : w1.ownsRow w.heap.size 3 1 v l.length (vals l) := by rw [hln]; exact hown
  obtain ⟨A2, c2, rfl, hI2, _, _⟩ := own_ints hown'
  rw [hln]
  have Hmin := Lib.hid hmin
  have HI := Lib.hid hI
  obtain ⟨n, hn⟩ : ∃ n, n = longOf (dOf m) l := ⟨_, rfl⟩
  rw [← hn]
  have Hn := Lib.hid hn
  clear hmin hown hown' hI hn
  go_wp2_with fail
  refine (around_any _).mono ?_
  rintro e w3 ⟨rfl, hs3⟩
  have hs13 := since_join hs1 hs3
  have C1 := Long_ok (cap := cap) (cap2 := c2) (h.since hs13) t (hI2.since (Nat.le_refl _) hs3) hpl.lt (by omega)
  rw [hln] at C1
  have D1 := Lib.hid C1
  clear C1
  go_wp2_with fail
  refine D1.out.mono ?_
  rintro e w4 ⟨hs4, rfl⟩
  have hs14 := since_join hs13 hs4
  go_wp2_with fail
  refine (shuffled_any m.length C cap2 mix _ (by omega) (HI.out.since (Nat.le_refl _) hs14) (by omega)).mono ?_
  rintro e w5 ⟨hs5, rfl, l0, hp0, hr0⟩
  have hs15 := since_join hs14 hs5
  have C2 := Long_ok (cap := cap) (cap2 := m.length) (h.since hs15) t (natsAt hp0.len hr0) hp0.lt (by have := hp0.len; omega)
  rw [hp0.len] at C2
  have D2 := Lib.hid C2
  clear C2 hr0
  go_wp2_with fail
  refine D2.out.mono ?_
  rintro e w6 ⟨hs6, rfl⟩
  have hs16 := since_join hs15 hs6
  go_wp2_with fail
  refine (Tree_ok (cap := cap) (h.since hs16) t).mono ?_
  rintro e w7 ⟨hs7, s, rfl, hlow⟩
  have hs17 := since_join hs16 hs7
  go_wp2_with fail
  refine (Near_ok (cap := cap) (h.since hs17) t).mono ?_
  rintro e w8 ⟨hs8, A3, c3, l3, rfl, hI3, hp3⟩
  have hs18 := since_join hs17 hs8
  have C3 := Long_ok (cap := cap) (cap2 := c3) (h.since hs18) t hI3 hp3.lt (by have := hp3.len; omega)
  rw [hp3.len] at C3
  have D3 := Lib.hid C3
  clear C3
  have h1 : n = longOf (dOf m) l := Hn.out
  have h2 : n ≤ longOf (dOf m) l0 := by rw [h1]; exact Hmin.out l0 hp0
  have h3 : n ≤ longOf (dOf m) l3 := by rw [h1]; exact Hmin.out l3 hp3
  have h4 : s ≤ n := by rw [h1]; exact hlow l hpl
  rw [← h1] at *
  generalize longOf (dOf m) l0 = x0 at *
  generalize longOf (dOf m) l3 = x3 at *
  clear hlow h1
  go_wp2_with fail
  refine D3.out.mono ?_
  rintro e w9 ⟨hs9, rfl⟩
  have hnn : (n == n) = true := by simp
  go_wp2
  go_ret
  exact ⟨rfl, since_join hs18 hs9⟩
end Go.Proofs.Ytlopcegpolpndaa
