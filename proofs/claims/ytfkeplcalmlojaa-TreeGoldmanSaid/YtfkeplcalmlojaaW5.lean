/- tree.weights, Sum and Middle, and the fact grown. -/
import Derived.Test.YtfkeplcalmlojaaW4
import Derived.Deep.QuietTactic
import Derived.BigQuiet
namespace Go.Proofs.Ytfkeplcalmlojaa
open Go.RowKit TreeM

def heavy (x : Int) : Bool := decide (x < 0) || decide (10000 < x)
theorem heavy_any (x : Int) (w : World) : Calls Try.prog 20 #[.int .i64 x] w fun e w' => e = .returned (.bool (heavy x)) ∧ w = w' := by
  have h : Hid (heavy x = (decide (x < 0) || decide (10000 < x))) := Lib.hid rfl
  by_cases h1 : x < 0
  · go_enter Try.func20, Try.ntmps20
    go_wp2
    go_ret
    exact ⟨by rw [h.out]; simp [h1], rfl⟩
  · have h1' : 0 ≤ x := by omega
    by_cases h2 : 10000 < x
    · go_enter Try.func20, Try.ntmps20
      go_wp2
      go_ret
      exact ⟨by rw [h.out]; simp [h2], rfl⟩
    · have h2' : x ≤ 10000 := by omega
      go_enter Try.func20, Try.ntmps20
      go_wp2
      go_ret
      exact ⟨by rw [h.out]; simp [h1', h2'], rfl⟩
theorem enters20 : ∀ args w, (callFunc 20 args).run Try.prog w = .ok (.enter 20 args) w := fun _ _ => by kernel_rfl

structure WOk (places : Int) (rs : List RE) (ps : List Int) : Prop where
  tree : TreeOk places rs
  len : (ps.length : Int) = places
  ok : ∀ p ∈ ps, 0 ≤ p ∧ p ≤ 10000
theorem heavy_iff (ps : List Int) : ps.any heavy = false ↔ ∀ p ∈ ps, 0 ≤ p ∧ p ≤ 10000 := by
  simp [heavy]
def WPost (places : Int) (rs : List RE) (ps : List Int) (w : World) (e : Ending) (w' : World) : Prop :=
  w.Since w.heap.size w' ∧ ∃ c : Option Int, e = .returned (errV c) ∧ (c = none ↔ WOk places rs ps)

set_option maxHeartbeats 2000000 in
theorem weights_any (places : Int) (A C : Option Addr) (cap cap2 : Nat) (rs : List RE) (ps : List Int) (w : World) (h : RawAt w A rs) (hlen : rs.length ≤ 1000000000) (hp : IntsAt w C ps) (hplen : ps.length ≤ 1000000000) :
    Calls Try.prog 16 #[.int .i64 places, .slice A rs.length cap, .slice C ps.length cap2] w (WPost places rs ps w) := by
  by_cases t : TreeOk places rs
  case neg =>
    go_enter Try.func16, Try.ntmps16
    go_wp2_with fail
    refine (Check_bad h hlen t).mono ?_
    rintro e w0 ⟨hs0, k, rfl⟩
    go_wp2
    go_ret
    exact ⟨hs0, some k, rfl, by simp; exact fun c => t c.tree⟩
  by_cases hl : (ps.length : Int) = places
  case neg =>
    have hb : ((ps.length : Int) != places) = true := by rw [bne_iff_ne]; exact hl
    go_enter Try.func16, Try.ntmps16
    go_wp2_with fail
    refine (Check_ok h hlen t).mono ?_
    rintro e w0 ⟨rfl, hs0⟩
    go_wp2
    go_ret
    exact ⟨hs0, some 3, rfl, by simp; exact fun c => hl c.len⟩
  have hb : ((ps.length : Int) != places) = false := by rw [bne_eq_false_iff_eq]; exact hl
  have Hl := Lib.hid hl
  clear hl
  obtain ⟨b, hb2⟩ : ∃ b, ps.any heavy = b := ⟨_, rfl⟩
  have Hb := Lib.hid hb2
  have c1 : ∀ W, w.Since w.heap.size W → Calls Try.prog 19 #[.slice C ps.length cap2, .func (.func 20) #[] #[]] W fun e w' => e = .returned (.bool b) ∧ W = w' := fun W hW => by
    have := ContainsFunc_any C cap2 ps 20 #[] heavy W enters20 (fun x => heavy_any x W) (hp.since (Nat.le_refl _) hW) hplen
    rw [hb2] at this
    exact this
  have C1 := Lib.hid c1
  clear c1 hb2
  cases b
  · go_enter Try.func16, Try.ntmps16
    go_wp2_with fail
    refine (Check_ok h hlen t).mono ?_
    rintro e w0 ⟨rfl, hs0⟩
    go_wp2_with fail
    refine (C1.out w0 hs0).mono ?_
    rintro e w1 ⟨rfl, rfl⟩
    go_wp2
    go_ret
    exact ⟨hs0, none, rfl, fun _ => ⟨t, Hl.out, (heavy_iff ps).1 Hb.out⟩, fun _ => rfl⟩
  · go_enter Try.func16, Try.ntmps16
    go_wp2_with fail
    refine (Check_ok h hlen t).mono ?_
    rintro e w0 ⟨rfl, hs0⟩
    go_wp2_with fail
    refine (C1.out w0 hs0).mono ?_
    rintro e w1 ⟨rfl, rfl⟩
    go_wp2
    go_ret
    exact ⟨hs0, some 2, rfl, by simp; exact fun c => by have := (heavy_iff ps).2 c.ok; rw [Hb.out] at this; cases this⟩

theorem weights_ok {places : Int} {A C : Option Addr} {cap cap2 : Nat} {rs : List RE} {ps : List Int} {w : World} (h : RawAt w A rs) (hlen : rs.length ≤ 1000000000) (hp : IntsAt w C ps) (hplen : ps.length ≤ 1000000000) (t : WOk places rs ps) :
    Calls Try.prog 16 #[.int .i64 places, .slice A rs.length cap, .slice C ps.length cap2] w fun e w' => e = .returned .nilIface ∧ w.Since w.heap.size w' :=
  (weights_any places A C cap cap2 rs ps w h hlen hp hplen).mono fun e w' ⟨hs, c, he, hc⟩ => by
    have := hc.2 t
    subst this
    exact ⟨he, hs⟩
theorem weights_bad {places : Int} {A C : Option Addr} {cap cap2 : Nat} {rs : List RE} {ps : List Int} {w : World} (h : RawAt w A rs) (hlen : rs.length ≤ 1000000000) (hp : IntsAt w C ps) (hplen : ps.length ≤ 1000000000) (t : ¬ WOk places rs ps) :
    Calls Try.prog 16 #[.int .i64 places, .slice A rs.length cap, .slice C ps.length cap2] w (IsErr w) :=
  (weights_any places A C cap cap2 rs ps w h hlen hp hplen).mono fun e w' ⟨hs, c, he, hc⟩ => by
    cases c with
    | none => exact absurd (hc.1 rfl) t
    | some k => exact ⟨hs, k, he⟩

/-! Sum -/
def sumTo (n : Nat) (es : List Ed) (ps : List Int) (r k : Nat) : Int := sm k fun i => (frm n es r).getD i 0 * ps.getD i 0
theorem term_bd {n : Nat} {rs : List RE} {ps : List Int} (t : WOk n rs ps) {r k : Nat} (hr : r < n) (hk : k < n) :
    0 ≤ (frm n (rs.map RE.ed) r).getD k 0 * ps.getD k 0 ∧ (frm n (rs.map RE.ed) r).getD k 0 * ps.getD k 0 ≤ 600000000000000 := by
  have hn2 : n ≤ 60 := by have := t.tree.hi; omega
  have h1 : 0 ≤ (frm n (rs.map RE.ed) r).getD k 0 := t.tree.tree.reach hr (by omega)
  have h2 := frm_bound n (rs.map RE.ed) (good_of t.tree.ok) 1000000000 (by omega) (max_of t.tree.ok) r hr k
  have h3 : 0 ≤ ps.getD k 0 ∧ ps.getD k 0 ≤ 10000 := by
    have hl := t.len
    rw [List.getD_eq_getElem?_getD, List.getElem?_eq_getElem (by omega)]
    exact t.ok _ (List.getElem_mem _)
  have h4 : 0 ≤ (frm n (rs.map RE.ed) r).getD k 0 * ps.getD k 0 := Int.mul_nonneg h1 h3.1
  have h5 : (frm n (rs.map RE.ed) r).getD k 0 * ps.getD k 0 ≤ 60000000000 * 10000 := Int.mul_le_mul (by omega) h3.2 h3.1 (by omega)
  omega
theorem sumTo_bd {n : Nat} {rs : List RE} {ps : List Int} (t : WOk n rs ps) (r : Nat) (hr : r < n) : ∀ k, k ≤ n → 0 ≤ sumTo n (rs.map RE.ed) ps r k ∧ sumTo n (rs.map RE.ed) ps r k ≤ 600000000000000 * (k : Int) := by
  intro k
  induction k with
  | zero => intro _; simp [sumTo, sm]
  | succ k ih =>
    intro hk
    have := ih (by omega)
    have h4 := term_bd t (k := k) hr (by omega)
    unfold sumTo at this ⊢
    rw [sm]
    omega
def SumPost (v : Int) (w : World) (e : Ending) (w' : World) : Prop := w.Since w.heap.size w' ∧ e = .returned (.tuple #[.int .i64 v, .nilIface])

set_option maxHeartbeats 2000000 in
theorem Sum_ok {n : Nat} {A C : Option Addr} {cap cap2 : Nat} {rs : List RE} {ps : List Int} {w : World} (h : RawAt w A rs) (hlen : rs.length ≤ 100) (hp : IntsAt w C ps) (t : WOk n rs ps) (r : Nat) (hr : r < n) :
    Calls Try.prog 12 #[.int .i64 n, .slice A rs.length cap, .slice C ps.length cap2, .int .i64 r] w (SumPost (sumTo n (rs.map RE.ed) ps r n) w) := by
  have hn1 : 1 ≤ n := by have := t.tree.lo; omega
  have hn2 : n ≤ 60 := by have := t.tree.hi; omega
  have hpl : ps.length = n := by have := t.len; omega
  have Hpl := Lib.hid hpl
  have hrz : (r : Int) < (n : Int) := by omega
  have hpl2 : ps.length ≤ 60 := by omega
  clear hpl
  go_enter Try.func12, Try.ntmps12
  go_wp2_with fail
  refine (weights_ok h (by omega) hp (by omega) t).mono ?_
  rintro e w0 ⟨rfl, hs0⟩
  go_wp2_with fail
  refine (Far_ok (h.since (Nat.le_refl _) hs0) hlen t.tree r hr).mono ?_
  rintro e w1 ⟨hs1, b, hb, rfl, hro⟩
  have hp1 := (hp.since (Nat.le_refl _) hs0).since (Nat.le_refl _) hs1
  have hs2 := since_join hs0 hs1
  clear hs0 hs1 hb
  have hsz := hro.lt
  go_wp2
  go_loopg [13, 31] n (fun g s i wr => ∃ (k : Nat) (sv : Int), k ≤ n ∧ g = n - k ∧ i = .int .i64 k ∧ s = .int .i64 sv ∧ w1.Since w1.heap.size wr ∧ Hid (sv = sumTo n (rs.map RE.ed) ps r k))
  case atStart => exact ⟨0, 0, Nat.zero_le _, rfl, rfl, rfl, World.Since.refl _ _, Lib.hid rfl⟩
  case round =>
    obtain ⟨k, sv, hk, rfl, rfl, rfl, hw, hS⟩ := hrel
    by_cases hkn : k < n
    · have hkz : (k : Int) < (n : Int) := by omega
      have hkz2 : (k : Int) < (ps.length : Int) := by have := Hpl.out; omega
      obtain ⟨bp, off, rfl, hbp, hc⟩ := hp1 k (by omega)
      obtain ⟨p, hpk⟩ : ∃ p, ps[k]? = some p := ⟨ps[k], List.getElem?_eq_getElem (by omega)⟩
      have c0 := hro.cell hkn
      have c1 := hc k p hpk
      rw [← hw.cell (show b < w1.heap.size from hsz)] at c0
      rw [← hw.cell (show bp < w1.heap.size from hbp)] at c1
      have hbd := sumTo_bd t r hr k hk
      have hbd2 := sumTo_bd t r hr (k + 1) (by omega)
      have hst : sumTo n (rs.map RE.ed) ps r (k + 1) = sv + (frm n (rs.map RE.ed) r).getD k 0 * p := by
        rw [hS.out]; show sm (k + 1) _ = _; rw [sm, List.getD_eq_getElem?_getD (l := ps), hpk]; rfl
      rw [← hS.out] at hbd
      rw [hst] at hbd2
      have Hst := Lib.hid hst
      clear hst
      have htb := term_bd t (k := k) hr hkn
      rw [List.getD_eq_getElem?_getD (l := ps), hpk, Option.getD_some] at htb
      clear hpk
      generalize (frm n (rs.map RE.ed) r).getD k 0 = d at c0 hbd2 Hst htb
      go_wp2
      go_region
      go_wp2
      go_roundg (n - (k + 1))
      case measure => go_light; omega
      case rel =>
        go_light
        exact ⟨k + 1, sv + d * p, by omega, rfl, by go_num, rfl, hw.drew, Lib.hid Hst.out.symm⟩
    · obtain rfl : n = k := by omega
      go_wp2
      go_ret2
      exact ⟨since_join hs2 hw, by rw [hS.out]; rfl⟩

set_option maxHeartbeats 2000000 in
theorem Sum_bad {places at' : Int} {A C : Option Addr} {cap cap2 : Nat} {rs : List RE} {ps : List Int} {w : World} (h : RawAt w A rs) (hlen : rs.length ≤ 1000000000) (hp : IntsAt w C ps) (hplen : ps.length ≤ 1000000000) (t : ¬ WOk places rs ps) :
    Calls Try.prog 12 #[.int .i64 places, .slice A rs.length cap, .slice C ps.length cap2, .int .i64 at'] w (IsErr2 (.int .i64 0) w) := by
  go_enter Try.func12, Try.ntmps12
  go_wp2_with fail
  refine (weights_bad h hlen hp hplen t).mono ?_
  rintro e w0 ⟨hs0, k, rfl⟩
  go_wp2
  go_ret2
  exact ⟨hs0, k, rfl⟩
set_option maxHeartbeats 2000000 in
theorem Middle_bad {places : Int} {A C : Option Addr} {cap cap2 : Nat} {rs : List RE} {ps : List Int} {w : World} (h : RawAt w A rs) (hlen : rs.length ≤ 1000000000) (hp : IntsAt w C ps) (hplen : ps.length ≤ 1000000000) (t : ¬ WOk places rs ps) :
    Calls Try.prog 9 #[.int .i64 places, .slice A rs.length cap, .slice C ps.length cap2] w (IsErr3 (.int .i64 0) (.int .i64 0) w) := by
  go_enter Try.func9, Try.ntmps9
  go_wp2_with fail
  refine (weights_bad h hlen hp hplen t).mono ?_
  rintro e w0 ⟨hs0, k, rfl⟩
  go_wp2
  go_ret3
  exact ⟨hs0, k, rfl⟩

/-! Middle -/
def MidTo (S : Nat → Int) (k : Nat) (a best : Int) : Prop :=
  (k = 0 ∧ a = 0 ∧ best = -1) ∨ (∃ a' : Nat, a = a' ∧ a' < k ∧ best = S a' ∧ 0 ≤ best ∧ ∀ j, j < k → best ≤ S j)
theorem MidTo.take {S : Nat → Int} {k : Nat} {a best m : Int} (h : MidTo S k a best) (hm : m = S k) (h0 : 0 ≤ m) (hlt : best < 0 ∨ m < best) : MidTo S (k + 1) k m := by
  refine .inr ⟨k, rfl, by omega, hm, h0, fun j hj => ?_⟩
  rcases h with ⟨rfl, _, _⟩ | ⟨a', _, _, _, hb, hj'⟩
  · obtain rfl : j = 0 := by omega
    omega
  · by_cases hjk : j = k
    · subst hjk; omega
    · have := hj' j (by omega); omega
theorem MidTo.keep {S : Nat → Int} {k : Nat} {a best m : Int} (h : MidTo S k a best) (hm : m = S k) (h1 : 0 ≤ best) (h2 : best ≤ m) : MidTo S (k + 1) a best := by
  rcases h with ⟨rfl, _, h3⟩ | ⟨a', ha, hlt, he, hb, hj'⟩
  · omega
  · refine .inr ⟨a', ha, by omega, he, hb, fun j hj => ?_⟩
    by_cases hjk : j = k
    · subst hjk; omega
    · exact hj' j (by omega)
def MidPost (S : Nat → Int) (n : Nat) (w : World) (e : Ending) (w' : World) : Prop :=
  w.Since w.heap.size w' ∧ ∃ a r : Int, e = .returned (.tuple #[.int .i64 a, .int .i64 r, .nilIface]) ∧ MidTo S n a r

set_option maxHeartbeats 2000000 in
theorem Middle_ok {n : Nat} {A C : Option Addr} {cap cap2 : Nat} {rs : List RE} {ps : List Int} {w : World} (h : RawAt w A rs) (hlen : rs.length ≤ 100) (hp : IntsAt w C ps) (t : WOk n rs ps) :
    Calls Try.prog 9 #[.int .i64 n, .slice A rs.length cap, .slice C ps.length cap2] w (MidPost (fun r => sumTo n (rs.map RE.ed) ps r n) n w) := by
  have hn1 : 1 ≤ n := by have := t.tree.lo; omega
  have hn2 : n ≤ 60 := by have := t.tree.hi; omega
  have hpl2 : ps.length ≤ 60 := by have := t.len; omega
  go_enter Try.func9, Try.ntmps9
  go_wp2_with fail
  refine (weights_ok h (by omega) hp (by omega) t).mono ?_
  rintro e w0 ⟨rfl, hs0⟩
  go_wp2
  go_loopg [10, 11, 23] n (fun g a b i wr => ∃ (k : Nat) (at' best : Int), k ≤ n ∧ g = n - k ∧ i = .int .i64 k ∧ a = .int .i64 at' ∧ b = .int .i64 best ∧ w.Since w.heap.size wr ∧ Hid (MidTo (fun r => sumTo n (rs.map RE.ed) ps r n) k at' best))
  case atStart => exact ⟨0, 0, -1, Nat.zero_le _, rfl, rfl, rfl, rfl, hs0, Lib.hid (.inl ⟨rfl, rfl, rfl⟩)⟩
  case round =>
    clear hs0
    obtain ⟨k, a, best, hk, rfl, rfl, rfl, rfl, hs, hC⟩ := hrel
    by_cases hkn : k < n
    · have hkz : (k : Int) < (n : Int) := by omega
      go_wp2_with fail
      refine (Sum_ok (h.since (Nat.le_refl _) hs) hlen (hp.since (Nat.le_refl _) hs) t k hkn).mono ?_
      rintro e w1 ⟨hs1, rfl⟩
      have hbd := sumTo_bd t k hkn n (Nat.le_refl _)
      generalize hm : sumTo n (rs.map RE.ed) ps k n = m at hbd ⊢
      have Hm := Lib.hid hm.symm
      clear hm
      have hs2 := since_join hs hs1
      have hm0 := hbd.1
      clear hbd
      by_cases b1 : best < 0
      · go_wp2
        go_roundg (n - (k + 1))
        case measure => go_light; omega
        case rel =>
          go_light
          exact ⟨k + 1, k, m, by omega, rfl, by go_num, rfl, rfl, hs2, Lib.hid (hC.out.take Hm.out hm0 (.inl b1))⟩
      · have b1' : 0 ≤ best := by omega
        by_cases b2 : m < best
        · go_wp2
          go_roundg (n - (k + 1))
          case measure => go_light; omega
          case rel =>
            go_light
            exact ⟨k + 1, k, m, by omega, rfl, by go_num, rfl, rfl, hs2, Lib.hid (hC.out.take Hm.out hm0 (.inr b2))⟩
        · have b2' : best ≤ m := by omega
          go_wp2
          go_roundg (n - (k + 1))
          case measure => go_light; omega
          case rel =>
            go_light
            exact ⟨k + 1, a, best, by omega, rfl, by go_num, rfl, rfl, hs2, Lib.hid (hC.out.keep Hm.out b1' b2')⟩
    · obtain rfl : n = k := by omega
      go_wp2
      go_ret3
      exact ⟨hs, a, best, rfl, hC.out⟩

/-! grown -/
def gEdges : List RE := [⟨0, 1, 2⟩, ⟨1, 2, 3⟩]
theorem g_tree : WOk (3 : Nat) gEdges [1, 1, 1] := by
  refine ⟨⟨by decide, by decide, by decide, ?_, by decide⟩, by decide, by decide⟩
  intro r hr
  simp [gEdges] at hr
  rcases hr with rfl | rfl <;> simp [RE.ok]
theorem g_mid {a best : Int} (h : MidTo (fun r => sumTo 3 (gEdges.map RE.ed) [1, 1, 1] r 3) 3 a best) : a = 1 ∧ best = 5 := by
  have e0 : sumTo 3 (gEdges.map RE.ed) [1, 1, 1] 0 3 = 7 := by decide
  have e1 : sumTo 3 (gEdges.map RE.ed) [1, 1, 1] 1 3 = 5 := by decide
  have e2 : sumTo 3 (gEdges.map RE.ed) [1, 1, 1] 2 3 = 8 := by decide
  generalize hf : (fun r => sumTo 3 (gEdges.map RE.ed) [1, 1, 1] r 3) = f at h
  have f0 : f 0 = 7 := by rw [← hf]; exact e0
  have f1 : f 1 = 5 := by rw [← hf]; exact e1
  have f2 : f 2 = 8 := by rw [← hf]; exact e2
  clear hf e0 e1 e2
  rcases h with ⟨h, _⟩ | ⟨a', rfl, ha, hb, _, hj⟩
  · omega
  · have h1 := hj 1 (by omega)
    match a', ha with
    | 0, _ => omega
    | 1, _ => omega
    | 2, _ => omega
theorem row_lit (w : World) (c : Array Value) (t : TypeId) : (w.alloc (.cells c t)).rowIs w.heap.size t c.size (fun i => c.getD i undef) :=
  World.rowIs_alloc w c t _ (fun i hi => by rw [Array.getElem?_eq_getElem hi, Array.getD_eq_getD_getElem?, Array.getElem?_eq_getElem hi]; rfl)
theorem g_raw {W : World} {b : Nat} (h : W.rowIs b 31 6 (fun i => (#[.int .i64 0, .int .i64 1, .int .i64 2, .int .i64 1, .int .i64 2, .int .i64 3] : Array Value).getD i undef)) : RawAt W (some ⟨b, 0, none⟩) gEdges := fun _ _ => by
  refine ⟨b, 0, rfl, h.lt, fun k r hr => ?_⟩
  match k with
  | 0 => simp [gEdges] at hr; subst hr; exact ⟨h.cell (i := 0) (by omega), h.cell (i := 1) (by omega), h.cell (i := 2) (by omega)⟩
  | 1 => simp [gEdges] at hr; subst hr; exact ⟨h.cell (i := 3) (by omega), h.cell (i := 4) (by omega), h.cell (i := 5) (by omega)⟩
  | k + 2 => simp [gEdges] at hr
set_option maxHeartbeats 2000000 in
theorem grown_any (w : World) : Calls Try.prog 7 #[] w fun e w' => e = .returned (.bool true) ∧ w.Since w.heap.size w' := by
  go_enter Try.func7, Try.ntmps7
  go_wp2_with fail
  have h1 := row_lit w #[.int .i64 0, .int .i64 1, .int .i64 2, .int .i64 1, .int .i64 2, .int .i64 3] 31
  have h2 := row_lit (w.alloc (.cells #[.int .i64 0, .int .i64 1, .int .i64 2, .int .i64 1, .int .i64 2, .int .i64 3] 31)) #[.int .i64 1, .int .i64 1, .int .i64 1] 3
  rw [World.size_alloc] at h2
  have hs0 : w.Since w.heap.size ((w.alloc (.cells #[.int .i64 0, .int .i64 1, .int .i64 2, .int .i64 1, .int .i64 2, .int .i64 3] 31)).alloc (.cells #[.int .i64 1, .int .i64 1, .int .i64 1] 3)) :=
    ((World.Since.refl _ _).alloc (Nat.le_refl _) _).alloc (by simp) _
  have hI : IntsAt ((w.alloc (.cells #[.int .i64 0, .int .i64 1, .int .i64 2, .int .i64 1, .int .i64 2, .int .i64 3] 31)).alloc (.cells #[.int .i64 1, .int .i64 1, .int .i64 1] 3)) (some ⟨w.heap.size + 1, 0, none⟩) [1, 1, 1] :=
    IntsAt.row (n := 3) rfl (fun i hi => by match i, hi with | 0, _ => rfl | 1, _ => rfl | 2, _ => rfl) h2
  refine (Middle_ok (n := 3) (g_raw (h1.alloc _)) (by decide) hI g_tree).mono ?_
  rintro e w1 ⟨hs1, a, best, rfl, hm⟩
  obtain ⟨rfl, rfl⟩ := g_mid hm
  go_wp2
  go_ret
  exact ⟨rfl, since_join hs0 hs1⟩
end Go.Proofs.Ytfkeplcalmlojaa
