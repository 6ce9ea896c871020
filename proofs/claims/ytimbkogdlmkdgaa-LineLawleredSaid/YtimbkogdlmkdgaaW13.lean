/- line: LineLawlered's walk. -/
import Derived.Test.YtimbkogdlmkdgaaW12
namespace Go.Proofs.Ytimbkogdlmkdgaa
open Go.RowKit PermM StabM LineM

theorem sum_ge {m : List (List Int)} (k : Nat) : ((m.map List.length).take k).sum ≤ (m.map List.length).sum := sum_le_of
theorem take_sum {m : List (List Int)} {k : Nat} {r : List Int} (h : m[k]? = some r) : ((m.map List.length).take (k + 1)).sum = ((m.map List.length).take k).sum + r.length := by
  have : (m.map List.length)[k]? = some r.length := by rw [List.getElem?_map, h]; rfl
  rw [take_snoc' this, List.sum_append]; simp
theorem sum_bdN {B : Nat} : ∀ {l : List Nat}, (∀ x ∈ l, x ≤ B) → l.sum ≤ B * l.length
  | [], _ => by simp
  | x :: l, h => by
    have := sum_bdN (l := l) (fun y hy => h y (List.mem_cons_of_mem _ hy))
    have := h x (List.mem_cons_self ..)
    rw [List.sum_cons, List.length_cons, Nat.mul_add]; omega
theorem few_sum {m : List (List Int)} (h : m.length ≤ 12) (hr : ∀ r ∈ m, r.length ≤ 17592186044416) : (m.map List.length).sum ≤ 211106232532992 := by
  have h1 := sum_bdN (B := 17592186044416) (l := m.map List.length) (fun x hx => by
    obtain ⟨r, h2, rfl⟩ := List.mem_map.1 hx
    exact hr r h2)
  rw [List.length_map] at h1
  have : 17592186044416 * m.length ≤ 17592186044416 * 12 := Nat.mul_le_mul_left _ h
  omega
/-- the answer, where a row came -/
theorem lawlered_main {js : List Tri} {m : List (List Int)} {s : List Nat} {c c' : Int} {ok : Bool} (hL : LawSt js.length (lg js) (wg js) (du js) (ahd m) (allL js) s c)
    (h1 : (ok = true → keeps js.length (ahd m) s ∧ ∀ x, c' ≤ x ↔ under (lg js) (wg js) (du js) (allL js) s x) ∧ (ok = false → ¬ keeps js.length (ahd m) s)) :
    ok = true ∧ c' = c := by
  cases ok with
  | false => exact absurd hL.keeps (h1.2 rfl)
  | true =>
    obtain ⟨_, h2⟩ := h1.1 rfl
    refine ⟨rfl, ?_⟩
    have a1 := (h2 c).2 ((hL.cost c).1 (Int.le_refl _))
    have a2 := (hL.cost c').2 ((h2 c').1 (Int.le_refl _))
    omega
theorem lawlered_other {js : List Tri} {m : List (List Int)} {s l : List Nat} {c d : Int} {ok : Bool} (hL : LawSt js.length (lg js) (wg js) (du js) (ahd m) (allL js) s c) (hs : s.length = js.length) (hp : IsPerm js.length l)
    (h1 : (ok = true → keeps js.length (ahd m) l ∧ ∀ x, d ≤ x ↔ under (lg js) (wg js) (du js) (allL js) l x)) : ok = false ∨ c ≤ d := by
  cases ok with
  | false => exact .inl rfl
  | true =>
    obtain ⟨h2, h3⟩ := h1 rfl
    exact .inr (lawler hL hs (perm_range hp) h2 ((h3 d).1 (Int.le_refl _)))
set_option maxHeartbeats 8000000 in
set_option maxRecDepth 100000 in
theorem lawlered_any {A M C : Option Addr} {cap cap2 cap3 : Nat} {js : List Tri} {m : List (List Int)} {mix : List Int} {w : World} (h : TriAt w A js) (hlen : js.length ≤ 9223372036854775807) (hm : MapAt w M m) (hml : m.length ≤ 9223372036854775807) (hr : ∀ r ∈ m, r.length ≤ 17592186044416)
    (hI : IntsAt w C mix) (hmix : mix.length ≤ 9223372036854775807) :
    Calls Try.prog 5 #[.slice A js.length cap, .slice M m.length cap2, .slice C mix.length cap3] w (TruePost w) := by
  have Hr := Lib.hid hr
  have HM := Lib.hid hm
  have H := Lib.hid h
  have HI := Lib.hid hI
  clear hr hm h hI
  go_enter Try.func5, Try.ntmps5
  go_wp2
  go_loopg [7, 8] m.length (fun gh nv iv wr => ∃ (k : Nat) (v : Int), k ≤ m.length ∧ gh = m.length - k ∧ nv = .int .i64 v ∧ iv = .int .i64 k ∧ Hid (m.length ≤ 12 → v = m.length + (((m.map List.length).take k).sum : Nat)) ∧ w = wr)
  case atStart => exact ⟨0, _, Nat.zero_le _, rfl, rfl, rfl, Lib.hid (fun _ => by simp), rfl⟩
  case round =>
    obtain ⟨k, v, hk, rfl, rfl, rfl, hv, rfl⟩ := hrel
    by_cases hkl : k < m.length
    · have hkz : (k : Int) < (m.length : Int) := by omega
      obtain ⟨b, off, rfl, hb, hc⟩ := HM.out k hkl
      obtain ⟨r, hr⟩ : ∃ r, m[k]? = some r := ⟨m[k], List.getElem?_eq_getElem hkl⟩
      obtain ⟨A', c', c0, _⟩ := hc k r hr
      have hrl := Hr.out r (List.mem_of_getElem? hr)
      have hrlz : (r.length : Int) ≤ 17592186044416 := by omega
      have Hx := Lib.hid hr
      clear hc hr
      go_wp2
      go_roundg (m.length - (k + 1))
      case measure => go_light; omega
      case rel =>
        go_light
        refine ⟨k + 1, _, by omega, rfl, rfl, by go_num, Lib.hid (fun h12 => ?_), rfl⟩
        have h1 := hv.out h12
        have h2 := few_sum h12 Hr.out
        have h3 := take_sum Hx.out
        have h4 := sum_ge (m := m) (k + 1)
        first
          | (unfold wrap64; omega)
          | omega
    · obtain rfl : m.length = k := by omega
      have hv' := hv.out
      rw [List.take_of_length_le (by simp)] at hv'
      have Hv := Lib.hid hv'
      clear hv hv'
      by_cases h12 : 12 < js.length
      · have h12z : (12 : Int) < (js.length : Int) := by omega
        go_wp2
        go_ret
        exact ⟨rfl, World.Since.refl _ _⟩
      have h12' : js.length ≤ 12 := by omega
      have h12z : (js.length : Int) ≤ 12 := by omega
      clear h12
      by_cases h60 : 60 < v
      · go_wp2
        go_ret
        exact ⟨rfl, World.Since.refl _ _⟩
      have h60' : v ≤ 60 := by omega
      clear h60
      by_cases hx60 : 60 < mix.length
      · have h60z : (60 : Int) < (mix.length : Int) := by omega
        go_wp2
        go_ret
        exact ⟨rfl, World.Since.refl _ _⟩
      have hx60' : mix.length ≤ 60 := by omega
      have hx60z : (mix.length : Int) ≤ 60 := by omega
      clear hx60
      have hsum : m.length = js.length → (m.map List.length).sum ≤ 60 := fun e => by
        have := Hv.out (by omega)
        omega
      have CL := Lib.hid (Lawler_any (cap := cap) (cap2 := cap2) H.out hlen HM.out hsum)
      have Hsum := Lib.hid hsum
      clear hsum
      go_wp2_with fail
      refine CL.out.mono ?_
      rintro e w1 ⟨hs1, h1 | ⟨ht, hme, hin, s, c, g, h1, hsl, hL, hIs⟩⟩
      · obtain ⟨k, rfl⟩ := h1
        go_wp2_with fail
        refine (done_any _).mono ?_
        rintro e w2 ⟨rfl, hs2⟩
        go_wp2_with fail
        refine (done_any _).mono ?_
        rintro e w3 ⟨rfl, hs3⟩
        go_wp2
        go_ret
        exact ⟨rfl, since_join (since_join hs1 hs2) hs3⟩
      · subst h1
        have hr60 : ∀ r ∈ m, r.length ≤ 60 := fun r hr => Nat.le_trans (le_sum_mem (List.mem_map.2 ⟨r, hr, rfl⟩)) (Hsum.out hme)
        have hps : IsPerm js.length s := ⟨hsl, hL.nodup, hL.lt⟩
        have HT := Lib.hid ht
        have Hme := Lib.hid hme
        have Hin := Lib.hid hin
        have Hsl := Lib.hid hsl
        have HL := Lib.hid hL
        have HIs := Lib.hid hIs
        have H60 := Lib.hid hr60
        have Hps := Lib.hid hps
        clear ht hme hin hsl hL hIs hr60 hps
        go_wp2_with fail
        refine (done_any _).mono ?_
        rintro e w2 ⟨rfl, hs2⟩
        have hs02 := since_join hs1 hs2
        go_wp2_with fail
        refine (worst_ok (cap := cap) (cap2 := cap2) (cap3 := js.length) (H.out.same hs02) HT.out (HM.out.since hs02) Hme.out H60.out Hin.out (HIs.out.since (Nat.le_refl _) hs2) Hps.out).mono ?_
        rintro e w3 ⟨hs3, c', ok, rfl, k1⟩
        obtain ⟨rfl, rfl⟩ := lawlered_main HL.out k1
        clear k1
        have hs03 := since_join hs02 hs3
        go_wp2_with fail
        refine (shuffled_any js.length C cap3 mix w3 (by omega) (HI.out.since (Nat.le_refl _) hs03) (by omega)).mono ?_
        rintro e w4 ⟨hs4, rfl, l, hp, hr4⟩
        have hs04 := since_join hs03 hs4
        have hI4 := natsAt hp.len hr4
        have Hp := Lib.hid hp
        have HI4 := Lib.hid hI4
        clear hp hr4 hI4
        go_wp2_with fail
        refine (worst_ok (cap := cap) (cap2 := cap2) (cap3 := js.length) (H.out.same hs04) HT.out (HM.out.since hs04) Hme.out H60.out Hin.out HI4.out Hp.out).mono ?_
        rintro e w5 ⟨hs5, d, ok, rfl, k1⟩
        have hs05 := since_join hs04 hs5
        have hle := lawlered_other HL.out Hsl.out Hp.out k1.1
        clear k1 hs1 hs2 hs3 hs4 hs5 hs02 hs03 hs04
        cases ok with
        | false =>
          clear hle
          go_wp2
          go_ret
          exact ⟨rfl, hs05⟩
        | true =>
          have hle' : c' ≤ d := by
            rcases hle with h1 | h1
            · cases h1
            · exact h1
          clear hle
          go_wp2
          go_ret
          exact ⟨rfl, hs05⟩
end Go.Proofs.Ytimbkogdlmkdgaa
