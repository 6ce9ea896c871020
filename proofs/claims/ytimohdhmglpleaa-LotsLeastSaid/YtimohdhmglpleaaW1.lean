/- lots: Check. -/
import Derived.Test.YtimohdhmglpleaaArgs
import Derived.Test.YtimohdhmglpleaaShuf
namespace Go.Proofs.Ytimohdhmglpleaa
open Go.RowKit PermM

/-- what Check asks -/
structure NeedOk (l o k : List Int) : Prop where
  few : l.length ≤ 50
  lo : o.length = l.length
  lk : k.length = l.length
  okl : ∀ x ∈ l, 0 ≤ x ∧ x ≤ 1000000
  oko : ∀ x ∈ o, 0 ≤ x ∧ x ≤ 1000000
  okk : ∀ x ∈ k, 0 ≤ x ∧ x ≤ 1000000
def far (x : Int) : Bool := decide (x < 0) || decide (1000000 < x)
theorem far_any (x : Int) (w : World) : Calls Try.prog 11 #[.int .i64 x] w fun e w' => e = .returned (.bool (far x)) ∧ w = w' := by
  have h : Hid (far x = (decide (x < 0) || decide (1000000 < x))) := Lib.hid rfl
  by_cases h1 : x < 0
  · go_enter Try.func11, Try.ntmps11
    go_wp2
    go_ret
    exact ⟨by rw [h.out]; simp [h1], rfl⟩
  · have h1' : 0 ≤ x := by omega
    by_cases h2 : 1000000 < x
    · go_enter Try.func11, Try.ntmps11
      go_wp2
      go_ret
      exact ⟨by rw [h.out]; simp [h2], rfl⟩
    · have h2' : x ≤ 1000000 := by omega
      go_enter Try.func11, Try.ntmps11
      go_wp2
      go_ret
      exact ⟨by rw [h.out]; simp [h1', h2'], rfl⟩
theorem enters11 : ∀ args w, (callFunc 11 args).run Try.prog w = .ok (.enter 11 args) w := fun _ _ => by kernel_rfl
theorem far_iff (r : List Int) : r.any far = false ↔ ∀ x ∈ r, 0 ≤ x ∧ x ≤ 1000000 := by simp [far]
def NeedPost (l o k : List Int) (w : World) (e : Ending) (w' : World) : Prop := w.Since w.heap.size w' ∧ ∃ c : Option Int, e = .returned (errV c) ∧ (c = none ↔ NeedOk l o k)
theorem NeedPost.bad {l o k : List Int} {w w' : World} (c : Int) (hs : w.Since w.heap.size w') (h : ¬ NeedOk l o k) : NeedPost l o k w (.returned (.iface 40 (.int .i64 c))) w' := ⟨hs, some c, rfl, by simp [h]⟩
theorem IntsAt.same {w wr : World} {A : Option Addr} {xs : List Int} (h : IntsAt w A xs) (hs : w.Since w.heap.size wr) : IntsAt wr A xs := h.since (Nat.le_refl _) hs
/-- what of the three has been looked at -/
def Looked (l o k : List Int) (i : Nat) : Prop := (0 < i → l.any far = false) ∧ (1 < i → o.any far = false) ∧ (2 < i → k.any far = false)
set_option maxHeartbeats 4000000 in
theorem Check_any (A B C : Option Addr) (ca cb cc : Nat) (l o k : List Int) (w : World) (hl : IntsAt w A l) (ho : IntsAt w B o) (hk : IntsAt w C k) (n1 : l.length ≤ 1000000000) (n2 : o.length ≤ 1000000000) (n3 : k.length ≤ 1000000000) :
    Calls Try.prog 7 #[.agg #[.slice A l.length ca, .slice B o.length cb, .slice C k.length cc]] w (NeedPost l o k w) := by
  have hs1 : ∀ u t, w.Since w.heap.size (w.alloc (.cells u t)) := fun u t => (World.Since.refl _ _).alloc (Nat.le_refl _) _
  have Hs1 := Lib.hid hs1
  clear hs1
  by_cases p1 : 50 < l.length
  · have p1z : (50 : Int) < (l.length : Int) := by omega
    clear hl ho hk
    go_enter Try.func7, Try.ntmps7
    go_wp2
    go_ret
    exact NeedPost.bad 4 (Hs1.out _ _) (fun t => by have := t.few; omega)
  have p1' : l.length ≤ 50 := by omega
  have p1z : (l.length : Int) ≤ 50 := by omega
  by_cases p2 : o.length = l.length
  case neg =>
    have b2 : (((o.length : Nat) : Int) != ((l.length : Nat) : Int)) = true := by rw [bne_iff_ne]; omega
    have nz2 : (o.length : Int) ≤ 1000000000 := by omega
    have P2 := Lib.hid p2
    clear p2
    clear hl ho hk
    go_enter Try.func7, Try.ntmps7
    go_wp2
    go_ret
    exact NeedPost.bad 3 (Hs1.out _ _) (fun t => P2.out t.lo)
  have b2 : (((l.length : Nat) : Int) != ((l.length : Nat) : Int)) = false := by simp
  rw [p2]
  have P2 := Lib.hid p2
  clear p2
  by_cases p3 : k.length = l.length
  case neg =>
    have b3 : (((k.length : Nat) : Int) != ((l.length : Nat) : Int)) = true := by rw [bne_iff_ne]; omega
    have nz3 : (k.length : Int) ≤ 1000000000 := by omega
    have P3 := Lib.hid p3
    clear p3
    clear hl ho hk
    go_enter Try.func7, Try.ntmps7
    go_wp2
    go_ret
    exact NeedPost.bad 3 (Hs1.out _ _) (fun t => P3.out t.lk)
  rw [p3]
  have P3 := Lib.hid p3
  clear p3
  have HL := Lib.hid hl
  have HO := Lib.hid ho
  have HK := Lib.hid hk
  clear hl ho hk n2 n3
  have C1 : ∀ W, w.Since w.heap.size W → ∀ t, l.any far = t → Calls Try.prog 10 #[.slice A l.length ca, .func (.func 11) #[] #[]] W fun e w' => e = .returned (.bool t) ∧ W = w' := fun W hW t ht => by
    rw [← ht]; exact ContainsFunc_any A ca l 11 #[] far W enters11 (fun x => far_any x W) (HL.out.same hW) n1
  have C2 : ∀ W, w.Since w.heap.size W → ∀ t, o.any far = t → Calls Try.prog 10 #[.slice B l.length cb, .func (.func 11) #[] #[]] W fun e w' => e = .returned (.bool t) ∧ W = w' := fun W hW t ht => by
    rw [← ht, ← P2.out]; exact ContainsFunc_any B cb o 11 #[] far W enters11 (fun x => far_any x W) (HO.out.same hW) (by rw [P2.out]; exact n1)
  have C3 : ∀ W, w.Since w.heap.size W → ∀ t, k.any far = t → Calls Try.prog 10 #[.slice C l.length cc, .func (.func 11) #[] #[]] W fun e w' => e = .returned (.bool t) ∧ W = w' := fun W hW t ht => by
    rw [← ht, ← P3.out]; exact ContainsFunc_any C cc k 11 #[] far W enters11 (fun x => far_any x W) (HK.out.same hW) (by rw [P3.out]; exact n1)
  have K1 := Lib.hid C1
  have K2 := Lib.hid C2
  have K3 := Lib.hid C3
  clear C1 C2 C3
  have hd : decide (50 < (l.length : Int)) = false := decide_eq_false (by omega)
  have hsW : w.Since w.heap.size ((w.alloc (Obj.cells #[Value.slice A l.length ca, Value.slice B l.length cb, Value.slice C l.length cc] 24)).alloc (Obj.cells #[Value.slice A l.length ca, Value.slice B l.length cb, Value.slice C l.length cc] 22)) := (Hs1.out _ _).alloc (by simp) _
  have HsW := Lib.hid hsW
  clear hsW
  go_enter Try.func7, Try.ntmps7
  go_wp2
  generalize hWW : ((w.alloc (Obj.cells #[Value.slice A l.length ca, Value.slice B l.length cb, Value.slice C l.length cc] 24)).alloc (Obj.cells #[Value.slice A l.length ca, Value.slice B l.length cb, Value.slice C l.length cc] 22)) = W at *
  have d0 : W.cell? ⟨w.heap.size + 1, 0, none⟩ = some (Value.slice A l.length ca) := by rw [← hWW, World.cell?_alloc_at _ _ _ _ (by simp)]; rfl
  have d1 : W.cell? ⟨w.heap.size + 1, 1, none⟩ = some (Value.slice B l.length cb) := by rw [← hWW, World.cell?_alloc_at _ _ _ _ (by simp)]; rfl
  have d2 : W.cell? ⟨w.heap.size + 1, 2, none⟩ = some (Value.slice C l.length cc) := by rw [← hWW, World.cell?_alloc_at _ _ _ _ (by simp)]; rfl
  clear hWW
  go_loopg [35] 3 (fun gh iv wr => ∃ i : Nat, i ≤ 3 ∧ gh = 3 - i ∧ iv = .int .i64 i ∧ W = wr ∧ Hid (Looked l o k i))
  case atStart => exact ⟨0, by omega, rfl, rfl, rfl, Lib.hid ⟨fun h => by omega, fun h => by omega, fun h => by omega⟩⟩
  case round =>
    obtain ⟨i, hi, rfl, rfl, rfl, hL⟩ := hrel
    have h4 : i = 0 ∨ i = 1 ∨ i = 2 ∨ i = 3 := by omega
    clear hi
    rcases h4 with rfl | rfl | rfl | rfl
    · obtain ⟨t, ht⟩ : ∃ t, l.any far = t := ⟨_, rfl⟩
      have Ht := Lib.hid ht
      clear ht
      cases t
      · go_wp2_with fail
        refine (K1.out _ HsW.out _ Ht.out).mono ?_
        rintro e w' ⟨rfl, rfl⟩
        go_wp2
        go_roundg 2
        case measure => go_light; omega
        case rel =>
          go_light
          exact ⟨1, by omega, rfl, rfl, rfl, Lib.hid ⟨fun _ => Ht.out, fun h => by omega, fun h => by omega⟩⟩
      · go_wp2_with fail
        refine (K1.out _ HsW.out _ Ht.out).mono ?_
        rintro e w' ⟨rfl, rfl⟩
        go_wp2
        go_ret
        exact NeedPost.bad 2 HsW.out (fun t => by have := (far_iff l).2 t.okl; rw [Ht.out] at this; cases this)
    · obtain ⟨t, ht⟩ : ∃ t, o.any far = t := ⟨_, rfl⟩
      have Ht := Lib.hid ht
      clear ht
      cases t
      · go_wp2_with fail
        refine (K2.out _ HsW.out _ Ht.out).mono ?_
        rintro e w' ⟨rfl, rfl⟩
        go_wp2
        go_roundg 1
        case measure => go_light; omega
        case rel =>
          go_light
          exact ⟨2, by omega, rfl, rfl, rfl, Lib.hid ⟨fun _ => hL.out.1 (by omega), fun _ => Ht.out, fun h => by omega⟩⟩
      · go_wp2_with fail
        refine (K2.out _ HsW.out _ Ht.out).mono ?_
        rintro e w' ⟨rfl, rfl⟩
        go_wp2
        go_ret
        exact NeedPost.bad 2 HsW.out (fun t => by have := (far_iff o).2 t.oko; rw [Ht.out] at this; cases this)
    · obtain ⟨t, ht⟩ : ∃ t, k.any far = t := ⟨_, rfl⟩
      have Ht := Lib.hid ht
      clear ht
      cases t
      · go_wp2_with fail
        refine (K3.out _ HsW.out _ Ht.out).mono ?_
        rintro e w' ⟨rfl, rfl⟩
        go_wp2
        go_roundg 0
        case measure => go_light; omega
        case rel =>
          go_light
          exact ⟨3, by omega, rfl, rfl, rfl, Lib.hid ⟨fun _ => hL.out.1 (by omega), fun _ => hL.out.2.1 (by omega), fun _ => Ht.out⟩⟩
      · go_wp2_with fail
        refine (K3.out _ HsW.out _ Ht.out).mono ?_
        rintro e w' ⟨rfl, rfl⟩
        go_wp2
        go_ret
        exact NeedPost.bad 2 HsW.out (fun t => by have := (far_iff k).2 t.okk; rw [Ht.out] at this; cases this)
    · go_wp2
      go_ret
      exact ⟨HsW.out, none, rfl, fun _ => ⟨p1', P2.out, P3.out, (far_iff l).1 (hL.out.1 (by omega)), (far_iff o).1 (hL.out.2.1 (by omega)), (far_iff k).1 (hL.out.2.2 (by omega))⟩, fun _ => rfl⟩
theorem Check_ok {A B C : Option Addr} {ca cb cc : Nat} {l o k : List Int} {w : World} (hl : IntsAt w A l) (ho : IntsAt w B o) (hk : IntsAt w C k) (t : NeedOk l o k) :
    Calls Try.prog 7 #[.agg #[.slice A l.length ca, .slice B l.length cb, .slice C l.length cc]] w fun e w' => e = .returned .nilIface ∧ w.Since w.heap.size w' := by
  have h := Check_any A B C ca cb cc l o k w hl ho hk (by have := t.few; omega) (by have := t.few; have := t.lo; omega) (by have := t.few; have := t.lk; omega)
  rw [t.lo, t.lk] at h
  exact h.mono fun e w' ⟨hs, c, he, hc⟩ => by
    have := hc.2 t
    subst this
    exact ⟨he, hs⟩
theorem Check_bad {A B C : Option Addr} {ca cb cc : Nat} {l o k : List Int} {w : World} (hl : IntsAt w A l) (ho : IntsAt w B o) (hk : IntsAt w C k) (n1 : l.length ≤ 1000000000) (n2 : o.length ≤ 1000000000) (n3 : k.length ≤ 1000000000) (t : ¬ NeedOk l o k) :
    Calls Try.prog 7 #[.agg #[.slice A l.length ca, .slice B o.length cb, .slice C k.length cc]] w fun e w' => (∃ c : Int, e = .returned (.iface 40 (.int .i64 c))) ∧ w.Since w.heap.size w' :=
  (Check_any A B C ca cb cc l o k w hl ho hk n1 n2 n3).mono fun e w' ⟨hs, c, he, hc⟩ => by
    cases c with
    | none => exact absurd (hc.1 rfl) t
    | some c => exact ⟨⟨c, he⟩, hs⟩
end Go.Proofs.Ytimohdhmglpleaa
