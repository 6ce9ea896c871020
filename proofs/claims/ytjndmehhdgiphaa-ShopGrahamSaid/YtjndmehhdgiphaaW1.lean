/- shop: jobs over two machines; shop.twos, shop.Flow. -/
import Derived.Test.YtjndmehhdgiphaaShuf
import Derived.Test.YtjndmehhdgiphaaStabM
import Derived.Test.YtjndmehhdgiphaaFlowM
namespace Go.Proofs.Ytjndmehhdgiphaa
open Go.RowKit PermM StabM FlowM

/-- a slice of structs of two ints reads as a list -/
abbrev Duo := Int × Int
def DuoAt (w : World) (A : Option Addr) (js : List Duo) : Prop :=
  ∀ k, k < js.length → ∃ b off, A = some ⟨b, off, none⟩ ∧ b < w.heap.size ∧ ∀ (k : Nat) (x : Duo), js[k]? = some x →
    w.cell? ⟨b, off + k * 2, none⟩ = some (.int .i64 x.1) ∧ w.cell? ⟨b, off + k * 2 + 1, none⟩ = some (.int .i64 x.2)
theorem DuoAt.since {w wr : World} {A : Option Addr} {js : List Duo} (h : DuoAt w A js) {B : Nat} (hB : w.heap.size ≤ B) (hs : w.Since B wr) : DuoAt wr A js := fun k hk => by
  obtain ⟨b, off, hA, hb, hc⟩ := h k hk
  have := hs.size
  refine ⟨b, off, hA, by omega, fun i x hx => ?_⟩
  obtain ⟨h1, h2⟩ := hc i x hx
  rw [hs.cell (show b < B by omega), hs.cell (show b < B by omega)]
  exact ⟨h1, h2⟩
theorem since_drewN {w wr : World} {B : Nat} (h : w.Since B wr) (n : Nat) : w.Since B (wr.drewN n) := ⟨h.os, h.tape, h.output, h.size, h.block⟩
theorem DuoAt.same {w w' : World} {A : Option Addr} {js : List Duo} (h : DuoAt w A js) (hs : w.Since w.heap.size w') : DuoAt w' A js := h.since (Nat.le_refl _) hs
def fa (js : List Duo) (i : Nat) : Int := (js.getD i (0, 0)).1
def fb (js : List Duo) (i : Nat) : Int := (js.getD i (0, 0)).2
theorem duo_at {js : List Duo} {k : Nat} {x : Duo} (h : js[k]? = some x) : fa js k = x.1 ∧ fb js k = x.2 := by
  unfold fa fb
  rw [List.getD_eq_getElem?_getD, h]
  exact ⟨rfl, rfl⟩
def duoOk (x : Duo) : Prop := (0 ≤ x.1 ∧ x.1 ≤ 1000000000) ∧ 0 ≤ x.2 ∧ x.2 ≤ 1000000000
structure DuosOk (js : List Duo) : Prop where
  few : js.length ≤ 60
  each : ∀ x ∈ js, duoOk x
theorem duo_bd {js : List Duo} (h : DuosOk js) (i : Nat) : (0 ≤ fa js i ∧ fa js i ≤ 1000000000) ∧ 0 ≤ fb js i ∧ fb js i ≤ 1000000000 := by
  by_cases hi : i < js.length
  · have hx : js[i]? = some js[i] := List.getElem?_eq_getElem hi
    have := h.each _ (List.mem_of_getElem? hx)
    obtain ⟨e1, e2⟩ := duo_at hx
    rw [e1, e2]
    exact this
  · have : js.getD i (0, 0) = (0, 0) := by rw [List.getD_eq_getElem?_getD, List.getElem?_eq_none (by omega)]; rfl
    unfold fa fb
    rw [this]
    decide
def TwosPost (js : List Duo) (w : World) (e : Ending) (w' : World) : Prop := w.Since w.heap.size w' ∧ ∃ c : Option Int, e = .returned (errV c) ∧ (c = none ↔ DuosOk js)
theorem TwosPost.bad {js : List Duo} {w w' : World} (k : Int) (hs : w.Since w.heap.size w') (h : ¬ DuosOk js) : TwosPost js w (.returned (.iface 50 (.int .i64 k))) w' := ⟨hs, some k, rfl, by simp [h]⟩

set_option maxHeartbeats 4000000 in
theorem twos_any (A : Option Addr) (cap : Nat) (js : List Duo) (w : World) (h : DuoAt w A js) (hlen : js.length ≤ 9223372036854775807) :
    Calls Try.prog 16 #[.slice A js.length cap] w (TwosPost js w) := by
  by_cases p1 : 60 < js.length
  · go_enter Try.func16, Try.ntmps16
    go_wp2
    go_ret
    exact TwosPost.bad 4 (World.Since.refl _ _) (fun t => by have := t.few; omega)
  have p2 : js.length ≤ 60 := by omega
  clear p1
  go_enter Try.func16, Try.ntmps16
  go_wp2
  go_loopg [11] js.length (fun g i wr => ∃ k : Nat, k ≤ js.length ∧ g = js.length - k ∧ i = .int .i64 k ∧ w.Since w.heap.size wr ∧ Hid (∀ x ∈ js.take k, duoOk x))
  case atStart => exact ⟨0, Nat.zero_le _, rfl, rfl, World.Since.refl _ _, Lib.hid (by simp)⟩
  case round =>
    obtain ⟨k, hk, rfl, rfl, hs, hH⟩ := hrel
    by_cases hkl : k < js.length
    · have hkz : (k : Int) < (js.length : Int) := by omega
      obtain ⟨b, off, rfl, hb, hc⟩ := h k hkl
      obtain ⟨x, hx⟩ : ∃ x, js[k]? = some x := ⟨js[k], List.getElem?_eq_getElem hkl⟩
      obtain ⟨c0, c1⟩ := hc k x hx
      rw [← hs.cell (show b < w.heap.size from hb)] at c0 c1
      have Hx := Lib.hid hx
      clear hx hc
      obtain ⟨x1, x2⟩ := x
      simp only at c0 c1
      have hbad : ¬ duoOk (x1, x2) → ∀ w', w.Since w.heap.size w' → TwosPost js w (.returned (.iface 50 (.int .i64 2))) w' := fun hno w' hs' => TwosPost.bad 2 hs' (fun t => hno (t.each _ (List.mem_of_getElem? Hx.out)))
      by_cases a1 : x1 < 0
      · go_wp2
        go_ret
        exact hbad (fun ⟨⟨(t1 : 0 ≤ x1), (t2 : x1 ≤ 1000000000)⟩, (t3 : 0 ≤ x2), (t4 : x2 ≤ 1000000000)⟩ => by omega) _ (hs.alloc hs.size _)
      have a1' : 0 ≤ x1 := by omega
      clear a1
      by_cases a2 : 1000000000 < x1
      · go_wp2
        go_ret
        exact hbad (fun ⟨⟨(t1 : 0 ≤ x1), (t2 : x1 ≤ 1000000000)⟩, (t3 : 0 ≤ x2), (t4 : x2 ≤ 1000000000)⟩ => by omega) _ (hs.alloc hs.size _)
      have a2' : x1 ≤ 1000000000 := by omega
      clear a2
      by_cases a3 : x2 < 0
      · go_wp2
        go_ret
        exact hbad (fun ⟨⟨(t1 : 0 ≤ x1), (t2 : x1 ≤ 1000000000)⟩, (t3 : 0 ≤ x2), (t4 : x2 ≤ 1000000000)⟩ => by omega) _ (hs.alloc hs.size _)
      have a3' : 0 ≤ x2 := by omega
      clear a3
      by_cases a4 : 1000000000 < x2
      · go_wp2
        go_ret
        exact hbad (fun ⟨⟨(t1 : 0 ≤ x1), (t2 : x1 ≤ 1000000000)⟩, (t3 : 0 ≤ x2), (t4 : x2 ≤ 1000000000)⟩ => by omega) _ (hs.alloc hs.size _)
      have a4' : x2 ≤ 1000000000 := by omega
      clear a4 hbad
      have hev : Hid (∀ x ∈ js.take (k + 1), duoOk x) := Lib.hid (by
        rw [take_snoc' Hx.out, List.forall_mem_append]
        refine ⟨hH.out, ?_⟩
        simp only [List.mem_singleton]
        rintro x rfl
        exact ⟨⟨a1', a2'⟩, a3', a4'⟩)
      go_wp2
      go_roundg (js.length - (k + 1))
      case measure => go_light; omega
      case rel =>
        go_light
        exact ⟨k + 1, by omega, rfl, by go_num, hs.alloc hs.size _, hev⟩
    · obtain rfl : js.length = k := by omega
      go_wp2
      go_ret
      refine ⟨hs, none, rfl, fun _ => ⟨p2, ?_⟩, fun _ => rfl⟩
      have := hH.out
      rw [List.take_of_length_le (Nat.le_refl _)] at this
      exact this
theorem twos_ok {A : Option Addr} {cap : Nat} {js : List Duo} {w : World} (h : DuoAt w A js) (t : DuosOk js) : Calls Try.prog 16 #[.slice A js.length cap] w fun e w' => w.Since w.heap.size w' ∧ e = .returned .nilIface :=
  (twos_any A cap js w h (by have := t.few; omega)).mono fun e w' ⟨k1, c, k2, k3⟩ => by
    obtain rfl := k3.2 t
    exact ⟨k1, k2⟩
theorem twos_bad {A : Option Addr} {cap : Nat} {js : List Duo} {w : World} (h : DuoAt w A js) (hlen : js.length ≤ 9223372036854775807) (t : ¬ DuosOk js) : Calls Try.prog 16 #[.slice A js.length cap] w fun e w' => w.Since w.heap.size w' ∧ ∃ k : Int, e = .returned (.iface 50 (.int .i64 k)) :=
  (twos_any A cap js w h hlen).mono fun e w' ⟨k1, c, k2, k3⟩ => by
    cases c with
    | none => exact absurd (k3.1 rfl) t
    | some k => exact ⟨k1, k, k2⟩

/-! Flow -/
def FlowPost (js : List Duo) (l : List Nat) (w : World) (e : Ending) (w' : World) : Prop := w.Since w.heap.size w' ∧ e = .returned (.tuple #[.int .i64 (flow (fa js) (fb js) 0 0 l), .nilIface])
set_option maxHeartbeats 4000000 in
theorem Flow_ok {A : Option Addr} {cap : Nat} {js : List Duo} {A2 : Option Addr} {cap2 : Nat} {l : List Nat} {w : World} (h : DuoAt w A js) (t : DuosOk js) (h2 : IntsAt w A2 (ints l)) (hp : IsPerm js.length l) :
    Calls Try.prog 9 #[.slice A js.length cap, .slice A2 js.length cap2] w (FlowPost js l w) := by
  have hfew := t.few
  have C1 := Lib.hid (twos_ok (cap := cap) h t)
  have HJ := Lib.hid h
  have HO := Lib.hid t
  have HI := Lib.hid h2
  have HP := Lib.hid hp
  have hll : l.length ≤ 60 := by rw [hp.len]; exact hfew
  have HL := Lib.hid hp.len
  clear h t h2 hp
  go_enter Try.func9, Try.ntmps9
  go_wp2_with fail
  refine C1.out.mono ?_
  rintro e w1 ⟨hs1, rfl⟩
  have hI1 : IntsAt w1 A2 (ints l) := HI.out.since (Nat.le_refl _) hs1
  have C2 := Lib.hid (Order_ok (cap := cap2) (n := js.length) (by omega) hI1 HP.out)
  clear hI1
  go_wp2_with fail
  refine C2.out.mono ?_
  rintro e w2 ⟨rfl, hs2⟩
  have hs := since_join hs1 hs2
  clear hs1 hs2
  go_wp2
  go_loopg [8, 9, 26] js.length (fun g av bv iv wr => ∃ (k m : Nat) (a b : Int), k ≤ js.length ∧ g = js.length - k ∧ iv = .int .i64 k ∧ av = .int .i64 a ∧ bv = .int .i64 b ∧ (0 ≤ a ∧ a ≤ 1000000000 * (k : Int)) ∧ (0 ≤ b ∧ b ≤ 2000000000 * (k : Int)) ∧ Hid (flow (fa js) (fb js) a b (l.drop k) = flow (fa js) (fb js) 0 0 l) ∧ wr = w2.drewN m)
  case atStart => exact ⟨0, 0, 0, 0, Nat.zero_le _, rfl, rfl, rfl, rfl, by omega, by omega, Lib.hid rfl, rfl⟩
  case round =>
    obtain ⟨k, m, a, b, hk, rfl, rfl, rfl, rfl, ha, hb0, hF, rfl⟩ := hrel
    by_cases hkl : k < js.length
    · have hkz : (k : Int) < (js.length : Int) := by omega
      obtain ⟨x, hx⟩ : ∃ x, l[k]? = some x := ⟨l[k]'(by rw [HL.out]; exact hkl), List.getElem?_eq_getElem _⟩
      have hxn : x < js.length := HP.out.lt x (List.mem_of_getElem? hx)
      have hxz : (x : Int) < (js.length : Int) := by omega
      obtain ⟨b2, off2, rfl, hb2, hc2⟩ := HI.out k (by rw [ints_len, HL.out]; exact hkl)
      have c5 := hc2 k (x : Int) (by unfold ints; rw [List.getElem?_map, hx]; rfl)
      rw [← hs.cell (show b2 < w.heap.size from hb2)] at c5
      obtain ⟨b1, off, rfl, hb, hc⟩ := HJ.out x hxn
      obtain ⟨y, hy⟩ : ∃ y, js[x]? = some y := ⟨js[x], List.getElem?_eq_getElem hxn⟩
      obtain ⟨c0, c1⟩ := hc x y hy
      rw [← hs.cell (show b1 < w.heap.size from hb)] at c0 c1
      obtain ⟨e1, e2⟩ := duo_at hy
      have hbd := duo_bd HO.out x
      have hst : flow (fa js) (fb js) a b (l.drop k) = flow (fa js) (fb js) (a + fa js x) (max (a + fa js x) b + fb js x) (l.drop (k + 1)) := by
        rw [List.drop_eq_getElem_cons (by rw [HL.out]; exact hkl)]
        have : l[k]'(by rw [HL.out]; exact hkl) = x := by rw [List.getElem?_eq_getElem (by rw [HL.out]; exact hkl)] at hx; exact Option.some.inj hx
        rw [this]
        rfl
      rw [hF.out, e1, e2] at hst
      rw [e1, e2] at hbd
      generalize y.1 = y1 at *
      generalize y.2 = y2 at *
      have Hst := Lib.hid hst
      clear hst hc hc2 hy hx e1 e2 hF
      obtain ⟨t1, t2⟩ := ha
      obtain ⟨t3, t4⟩ := hb0
      obtain ⟨⟨t5, t6⟩, t7, t8⟩ := hbd
      by_cases hm : a + y1 < b
      · have Hm : max (a + y1) b = b := by omega
        rw [Hm] at Hst
        clear Hm
        have n1 : 0 ≤ b + y2 := by omega
        have n2 : b + y2 ≤ 2000000000 * ((k : Int) + 1) := by omega
        have n3 : b + y2 ≤ 122000000000 := by omega
        have n4 : a + y1 ≤ 61000000000 := by omega
        have n5 : a + y1 ≤ 1000000000 * ((k : Int) + 1) := by omega
        have n6 : 0 ≤ a + y1 := by omega
        go_wp2
        go_roundg (js.length - (k + 1))
        case measure => go_light; omega
        case rel =>
          go_light
          exact ⟨k + 1, _, a + y1, b + y2, by omega, rfl, by go_num, rfl, rfl, ⟨n6, by omega⟩, ⟨n1, by omega⟩, Lib.hid Hst.out.symm, rfl⟩
      · have hm' : b ≤ a + y1 := by omega
        have Hm : max (a + y1) b = a + y1 := by omega
        rw [Hm] at Hst
        clear Hm hm
        have n1 : 0 ≤ a + y1 + y2 := by omega
        have n2 : a + y1 + y2 ≤ 2000000000 * ((k : Int) + 1) := by omega
        have n3 : a + y1 + y2 ≤ 122000000000 := by omega
        have n4 : a + y1 ≤ 61000000000 := by omega
        have n5 : a + y1 ≤ 1000000000 * ((k : Int) + 1) := by omega
        have n6 : 0 ≤ a + y1 := by omega
        go_wp2
        go_roundg (js.length - (k + 1))
        case measure => go_light; omega
        case rel =>
          go_light
          exact ⟨k + 1, _, a + y1, a + y1 + y2, by omega, rfl, by go_num, rfl, rfl, ⟨n6, by omega⟩, ⟨n1, by omega⟩, Lib.hid Hst.out.symm, rfl⟩
    · obtain rfl : js.length = k := by omega
      have e0 : l.drop js.length = [] := List.drop_of_length_le (by rw [HL.out]; exact Nat.le_refl _)
      have hF := hF.out
      rw [e0] at hF
      have hF' : b = flow (fa js) (fb js) 0 0 l := hF
      have HF := Lib.hid hF'
      clear hF hF' e0
      go_wp2
      go_ret2
      exact ⟨since_drewN hs m, by rw [← HF.out]; rfl⟩
end Go.Proofs.Ytjndmehhdgiphaa
