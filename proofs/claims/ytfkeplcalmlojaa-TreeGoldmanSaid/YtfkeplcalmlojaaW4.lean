/- tree.Across and tree.Far, on trees that Check lets by; their errors else. -/
import Derived.Test.YtfkeplcalmlojaaW3
namespace Go.Proofs.Ytfkeplcalmlojaa
open Go.RowKit TreeM

theorem results_tmp4 {fn : Func} {t u v x : Tmp} (h : fn.results = #[.tmp t, .tmp u, .tmp v, .tmp x]) (tmps : Array Value) (P : Program) (w : World) :
    (results fn tmps).run P w = .ok (.tuple #[tmps.getD t undef, tmps.getD u undef, tmps.getD v undef, tmps.getD x undef]) w := by simp [results, h]

/-! Across -/
def AcrossTo (n : Nat) (es : List Ed) (i k : Nat) (a b long : Int) : Prop :=
  ∃ a' b' : Nat, a = a' ∧ b = b' ∧ a' < n ∧ b' < n ∧ (frm n es a').getD b' 0 = long ∧ (∀ i' k', i' < i → k' < n → (frm n es i').getD k' 0 ≤ long) ∧ ∀ k', k' < k → (frm n es i).getD k' 0 ≤ long
theorem AcrossTo.next {n : Nat} {es : List Ed} {i : Nat} {a b long : Int} (h : AcrossTo n es i n a b long) : AcrossTo n es (i + 1) 0 a b long := by
  obtain ⟨a', b', h1, h2, h3, h4, h5, h6, h7⟩ := h
  refine ⟨a', b', h1, h2, h3, h4, h5, fun i' k' hi hk => ?_, fun k' hk => absurd hk (by omega)⟩
  by_cases e : i' = i
  · subst e; exact h7 k' hk
  · exact h6 i' k' (by omega) hk
def AcrossPost (n : Nat) (es : List Ed) (w : World) (e : Ending) (w' : World) : Prop :=
  w.Since w.heap.size w' ∧ ∃ a b long : Int, e = .returned (.tuple #[.int .i64 a, .int .i64 b, .int .i64 long, .nilIface]) ∧ AcrossTo n es n 0 a b long

set_option maxHeartbeats 2000000 in
theorem Across_ok {n : Nat} {A : Option Addr} {cap : Nat} {rs : List RE} {w : World} (h : RawAt w A rs) (hlen : rs.length ≤ 100) (t : TreeOk n rs) :
    Calls Try.prog 6 #[.int .i64 n, .slice A rs.length cap] w (AcrossPost n (rs.map RE.ed) w) := by
  have hn1 : 1 ≤ n := by have := t.lo; omega
  have hn2 : n ≤ 60 := by have := t.hi; omega
  go_enter Try.func6, Try.ntmps6
  go_wp2_with fail
  refine (Check_ok h (by omega) t).mono ?_
  rintro e w0 ⟨rfl, hs0⟩
  go_wp2
  go_loopg [4, 5, 6, 19] n (fun g a b l i wr => ∃ (k : Nat) (a' b' long : Int), k ≤ n ∧ g = n - k ∧ i = .int .i64 k ∧ a = .int .i64 a' ∧ b = .int .i64 b' ∧ l = .int .i64 long ∧ w.Since w.heap.size wr ∧ Hid (AcrossTo n (rs.map RE.ed) k 0 a' b' long))
  case atStart =>
    refine ⟨0, 0, 0, 0, Nat.zero_le _, rfl, rfl, rfl, rfl, rfl, hs0, Lib.hid ⟨0, 0, rfl, rfl, by omega, by omega, (frm_base n _ (good_of t.ok) 0 (by omega)).1, fun _ _ h => absurd h (by omega), fun _ h => absurd h (by omega)⟩⟩
  case round =>
    clear hs0
    obtain ⟨i, a, b, long, hk, rfl, rfl, rfl, rfl, rfl, hs, hC⟩ := hrel
    by_cases hkn : i < n
    · have hkz : (i : Int) < (n : Int) := by omega
      have c1 := from_any n A cap (rs.map RE.ed) i wr ((h.since (Nat.le_refl _) hs).eds t.ok) (by rw [List.length_map]; omega) hn2 hkn (good_of t.ok) (max_of t.ok)
      rw [List.length_map] at c1
      have C1 := Lib.hid c1
      clear c1
      go_wp2_with fail
      refine C1.out.mono ?_
      rintro e w1 ⟨rfl, hF⟩
      have hfl := Lib.hid (frm_len t.ok i)
      have hs1 := since_join hs hF.since
      have hro := hF.row
      have hsz := hF.row.lt
      clear hF hs
      generalize wr.heap.size = B at hro hsz ⊢
      go_wp2
      go_loopg [4, 5, 6, 27] n (fun g a b l j wr => ∃ (k : Nat) (a' b' long : Int), k ≤ n ∧ g = n - k ∧ j = .int .i64 k ∧ a = .int .i64 a' ∧ b = .int .i64 b' ∧ l = .int .i64 long ∧ w1 = wr ∧ Hid (AcrossTo n (rs.map RE.ed) i k a' b' long))
      case atStart => exact ⟨0, a, b, long, Nat.zero_le _, rfl, rfl, rfl, rfl, rfl, rfl, hC⟩
      case round =>
        clear hC
        obtain ⟨k, a, b, long, hk2, rfl, rfl, rfl, rfl, rfl, rfl, hC⟩ := hrel
        by_cases hkn2 : k < n
        · have hkz : (k : Int) < (n : Int) := by omega
          have c0 := hro.cell hkn2
          generalize hd : (frm n (rs.map RE.ed) i).getD k 0 = d at c0
          have Hd := Lib.hid hd
          clear hd
          by_cases b1 : long < d
          · go_wp2
            go_roundg (n - (k + 1))
            case measure => go_light; omega
            case rel =>
              go_light
              refine ⟨k + 1, i, k, d, by omega, rfl, by go_num, rfl, rfl, rfl, rfl, Lib.hid ?_⟩
              obtain ⟨a', b', h1, h2, h3, h4, h5, h6, h7⟩ := hC.out
              refine ⟨i, k, rfl, rfl, hkn, hkn2, Hd.out, fun i' k' hi hk => by have := h6 i' k' hi hk; omega, fun k' hk' => ?_⟩
              by_cases e : k' = k
              · subst e; rw [Hd.out]; omega
              · have := h7 k' (by omega); omega
          · have b2 : d ≤ long := by omega
            go_wp2
            go_roundg (n - (k + 1))
            case measure => go_light; omega
            case rel =>
              go_light
              refine ⟨k + 1, a, b, long, by omega, rfl, by go_num, rfl, rfl, rfl, rfl, Lib.hid ?_⟩
              obtain ⟨a', b', h1, h2, h3, h4, h5, h6, h7⟩ := hC.out
              refine ⟨a', b', h1, h2, h3, h4, h5, h6, fun k' hk' => ?_⟩
              by_cases e : k' = k
              · subst e; rw [Hd.out]; omega
              · exact h7 k' (by omega)
        · obtain rfl : n = k := by omega
          go_wp2
          go_roundg (n - (i + 1))
          case measure => go_light; omega
          case rel =>
            go_light
            exact ⟨i + 1, a, b, long, by omega, rfl, by go_num, rfl, rfl, rfl, hs1, Lib.hid hC.out.next⟩
    · obtain rfl : n = i := by omega
      go_wp2
      refine bodyPost_ret (results_tmp4 rfl _ _ _) rfl ?_
      exact ⟨hs, a, b, long, rfl, hC.out⟩

/-! Far -/
def FarPost (n : Nat) (es : List Ed) (r : Nat) (w : World) (e : Ending) (w' : World) : Prop :=
  w.Since w.heap.size w' ∧ ∃ b : Nat, w.heap.size ≤ b ∧ e = .returned (.tuple #[.slice (some ⟨b, 0, none⟩) n n, .nilIface]) ∧ w'.rowIs b 3 n (fun i => .int .i64 ((frm n es r).getD i 0))
set_option maxHeartbeats 2000000 in
theorem Far_ok {n : Nat} {A : Option Addr} {cap : Nat} {rs : List RE} {w : World} (h : RawAt w A rs) (hlen : rs.length ≤ 100) (t : TreeOk n rs) (r : Nat) (hr : r < n) :
    Calls Try.prog 8 #[.int .i64 n, .slice A rs.length cap, .int .i64 r] w (FarPost n (rs.map RE.ed) r w) := by
  have hn1 : 1 ≤ n := by have := t.lo; omega
  have hn2 : n ≤ 60 := by have := t.hi; omega
  have hrz : (r : Int) < (n : Int) := by omega
  go_enter Try.func8, Try.ntmps8
  go_wp2_with fail
  refine (Check_ok h (by omega) t).mono ?_
  rintro e w0 ⟨rfl, hs0⟩
  have c1 := from_any n A cap (rs.map RE.ed) r w0 ((h.since (Nat.le_refl _) hs0).eds t.ok) (by rw [List.length_map]; omega) hn2 hr (good_of t.ok) (max_of t.ok)
  rw [List.length_map] at c1
  have C1 := Lib.hid c1
  clear c1
  go_wp2_with fail
  refine C1.out.mono ?_
  rintro e w1 ⟨rfl, hF⟩
  go_wp2
  go_ret2
  exact ⟨since_join hs0 hF.since, _, hs0.size, rfl, hF.row⟩
def IsErr2 (v : Value) (w : World) (e : Ending) (w' : World) : Prop := w.Since w.heap.size w' ∧ ∃ k, e = .returned (.tuple #[v, .iface 45 (.int .i64 k)])
def IsErr3 (u v : Value) (w : World) (e : Ending) (w' : World) : Prop := w.Since w.heap.size w' ∧ ∃ k, e = .returned (.tuple #[u, v, .iface 45 (.int .i64 k)])
def IsErr4 (t u v : Value) (w : World) (e : Ending) (w' : World) : Prop := w.Since w.heap.size w' ∧ ∃ k, e = .returned (.tuple #[t, u, v, .iface 45 (.int .i64 k)])
set_option maxHeartbeats 2000000 in
theorem Center_bad {places : Int} {A : Option Addr} {cap : Nat} {rs : List RE} {w : World} (h : RawAt w A rs) (hlen : rs.length ≤ 1000000000) (t : ¬ TreeOk places rs) :
    Calls Try.prog 5 #[.int .i64 places, .slice A rs.length cap] w (IsErr3 (.int .i64 0) (.int .i64 0) w) := by
  go_enter Try.func5, Try.ntmps5
  go_wp2_with fail
  refine (Check_bad h hlen t).mono ?_
  rintro e w0 ⟨hs0, k, rfl⟩
  go_wp2
  go_ret3
  exact ⟨hs0, k, rfl⟩
set_option maxHeartbeats 2000000 in
theorem Across_bad {places : Int} {A : Option Addr} {cap : Nat} {rs : List RE} {w : World} (h : RawAt w A rs) (hlen : rs.length ≤ 1000000000) (t : ¬ TreeOk places rs) :
    Calls Try.prog 6 #[.int .i64 places, .slice A rs.length cap] w (IsErr4 (.int .i64 0) (.int .i64 0) (.int .i64 0) w) := by
  go_enter Try.func6, Try.ntmps6
  go_wp2_with fail
  refine (Check_bad h hlen t).mono ?_
  rintro e w0 ⟨hs0, k, rfl⟩
  go_wp2
  refine bodyPost_ret (results_tmp4 rfl _ _ _) rfl ?_
  exact ⟨hs0, k, rfl⟩
end Go.Proofs.Ytfkeplcalmlojaa
