/- Maps of ways as they come in; trip.Check, trip.Long. -/
import Derived.Test.YtlopcegpolpndaaShuf
import Derived.Test.YtlopcegpolpndaaTripM
namespace Go.Proofs.Ytlopcegpolpndaa
open Go.RowKit PermM TripM

/-- a slice of slices of ints reads as rows -/
def MapAt (w : World) (A : Option Addr) (m : List (List Int)) : Prop :=
  ∀ k, k < m.length → ∃ b off, A = some ⟨b, off, none⟩ ∧ b < w.heap.size ∧ ∀ (i : Nat) (r : List Int), m[i]? = some r →
    ∃ A' c, w.cell? ⟨b, off + i, none⟩ = some (.slice A' r.length c) ∧ IntsAt w A' r
theorem MapAt.since {w wr : World} {A : Option Addr} {m : List (List Int)} (h : MapAt w A m) (hs : w.Since w.heap.size wr) : MapAt wr A m := fun k hk => by
  obtain ⟨b, off, hA, hb, hc⟩ := h k hk
  have := hs.size
  refine ⟨b, off, hA, by omega, fun i r hr => ?_⟩
  obtain ⟨A', c, h1, h2⟩ := hc i r hr
  exact ⟨A', c, (hs.cell (show b < w.heap.size from hb)).trans h1, h2.since (Nat.le_refl _) hs⟩

/-- what Check asks -/
structure MapOk (m : List (List Int)) : Prop where
  few : m.length ≤ 9
  row : ∀ r ∈ m, r.length = m.length
  ok : ∀ r ∈ m, ∀ x ∈ r, 0 ≤ x ∧ x ≤ 1000000000
def far (x : Int) : Bool := decide (x < 0) || decide (1000000000 < x)
theorem far_any (x : Int) (w : World) : Calls Try.prog 27 #[.int .i64 x] w fun e w' => e = .returned (.bool (far x)) ∧ w = w' := by
  have h : Hid (far x = (decide (x < 0) || decide (1000000000 < x))) := Lib.hid rfl
  by_cases h1 : x < 0
  · go_enter Try.func27, Try.ntmps27
    go_wp2
    go_ret
    exact ⟨by rw [h.out]; simp [h1], rfl⟩
  · have h1' : 0 ≤ x := by omega
    by_cases h2 : 1000000000 < x
    · go_enter Try.func27, Try.ntmps27
      go_wp2
      go_ret
      exact ⟨by rw [h.out]; simp [h2], rfl⟩
    · have h2' : x ≤ 1000000000 := by omega
      go_enter Try.func27, Try.ntmps27
      go_wp2
      go_ret
      exact ⟨by rw [h.out]; simp [h1', h2'], rfl⟩
theorem enters27 : ∀ args w, (callFunc 27 args).run Try.prog w = .ok (.enter 27 args) w := fun _ _ => by kernel_rfl
theorem far_iff (r : List Int) : r.any far = false ↔ ∀ x ∈ r, 0 ≤ x ∧ x ≤ 1000000000 := by simp [far]

def ChkPost (m : List (List Int)) (w : World) (e : Ending) (w' : World) : Prop := w = w' ∧ ∃ c : Option Int, e = .returned (errV c) ∧ (c = none ↔ MapOk m)
theorem ChkPost.bad {m : List (List Int)} {w : World} (k : Int) (h : ¬ MapOk m) : ChkPost m w (.returned (.iface 46 (.int .i64 k))) w := ⟨rfl, some k, rfl, by simp [h]⟩

set_option maxHeartbeats 2000000 in
theorem Check_any (A : Option Addr) (cap : Nat) (m : List (List Int)) (w : World) (h : MapAt w A m) (hlen : m.length ≤ 9223372036854775807) (hrl : ∀ r ∈ m, r.length ≤ 9223372036854775807) :
    Calls Try.prog 15 #[.slice A m.length cap] w (ChkPost m w) := by
  by_cases p1 : 9 < m.length
  · go_enter Try.func15, Try.ntmps15
    go_wp2
    go_ret
    exact ChkPost.bad 4 (fun t => by have := t.few; omega)
  have p2 : m.length ≤ 9 := by omega
  clear p1
  go_enter Try.func15, Try.ntmps15
  go_wp2
  go_loopg [11] m.length (fun g i wr => ∃ k : Nat, k ≤ m.length ∧ g = m.length - k ∧ i = .int .i64 k ∧ w = wr ∧ Hid (∀ r ∈ m.take k, r.length = m.length ∧ ∀ x ∈ r, 0 ≤ x ∧ x ≤ 1000000000))
  case atStart => exact ⟨0, Nat.zero_le _, rfl, rfl, rfl, Lib.hid (by simp)⟩
  case round =>
    obtain ⟨k, hk, rfl, rfl, rfl, hok⟩ := hrel
    by_cases hkl : k < m.length
    · have hkz : (k : Int) < (m.length : Int) := by omega
      obtain ⟨b, off, rfl, hb, hc⟩ := h k hkl
      obtain ⟨r, hr⟩ : ∃ r, m[k]? = some r := ⟨m[k], List.getElem?_eq_getElem hkl⟩
      obtain ⟨A', c', h0, hI⟩ := hc k r hr
      have hrl1 := hrl r (List.mem_of_getElem? hr)
      have Hr := Lib.hid hr
      clear hr hc
      by_cases e : r.length = m.length
      case neg =>
        have hb : ((r.length : Int) != (m.length : Int)) = true := by rw [bne_iff_ne]; omega
        have He := Lib.hid e
        clear e
        go_wp2
        go_ret
        exact ChkPost.bad 3 (fun t => He.out (t.row r (List.mem_of_getElem? Hr.out)))
      have hb2 : ((r.length : Int) != (m.length : Int)) = false := by rw [bne_eq_false_iff_eq]; omega
      have He := Lib.hid e
      clear e
      obtain ⟨t, ht⟩ : ∃ t, r.any far = t := ⟨_, rfl⟩
      have c1 := ContainsFunc_any A' c' r 27 #[] far w enters27 (fun x => far_any x w) hI (by have := He.out; omega)
      rw [ht] at c1
      have C1 := Lib.hid c1
      have Ht := Lib.hid ht
      clear c1 ht
      cases t
      · go_wp2_with fail
        refine C1.out.mono ?_
        rintro e w1 ⟨rfl, rfl⟩
        go_wp2
        go_roundg (m.length - (k + 1))
        case measure => go_light; omega
        case rel =>
          go_light
          refine ⟨k + 1, by omega, rfl, by go_num, rfl, Lib.hid ?_⟩
          rw [take_snoc' Hr.out, List.forall_mem_append]
          exact ⟨hok.out, by intro x hx; simp at hx; subst hx; exact ⟨He.out, (far_iff x).1 Ht.out⟩⟩
      · go_wp2_with fail
        refine C1.out.mono ?_
        rintro e w1 ⟨rfl, rfl⟩
        go_wp2
        go_ret
        exact ChkPost.bad 2 (fun t => by have := (far_iff r).2 (t.ok r (List.mem_of_getElem? Hr.out)); rw [Ht.out] at this; cases this)
    · obtain rfl : m.length = k := by omega
      go_wp2
      go_ret
      have h1 := hok.out
      rw [List.take_of_length_le (Nat.le_refl _)] at h1
      exact ⟨rfl, none, rfl, fun _ => ⟨p2, fun r hr => (h1 r hr).1, fun r hr => (h1 r hr).2⟩, fun _ => rfl⟩
def IsErr (w : World) (e : Ending) (w' : World) : Prop := w.Since w.heap.size w' ∧ ∃ k, e = .returned (.iface 46 (.int .i64 k))
def IsErr2 (v : Value) (w : World) (e : Ending) (w' : World) : Prop := w.Since w.heap.size w' ∧ ∃ k, e = .returned (.tuple #[v, .iface 46 (.int .i64 k)])
def IsErr3 (u v : Value) (w : World) (e : Ending) (w' : World) : Prop := w.Since w.heap.size w' ∧ ∃ k, e = .returned (.tuple #[u, v, .iface 46 (.int .i64 k)])
theorem Check_ok {A : Option Addr} {cap : Nat} {m : List (List Int)} {w : World} (h : MapAt w A m) (t : MapOk m) :
    Calls Try.prog 15 #[.slice A m.length cap] w fun e w' => e = .returned .nilIface ∧ w = w' :=
  (Check_any A cap m w h (by have := t.few; omega) (fun r hr => by rw [t.row r hr]; have := t.few; omega)).mono fun e w' ⟨hs, c, he, hc⟩ => by
    have := hc.2 t
    subst this
    exact ⟨he, hs⟩
theorem Check_bad {A : Option Addr} {cap : Nat} {m : List (List Int)} {w : World} (h : MapAt w A m) (hlen : m.length ≤ 9223372036854775807) (hrl : ∀ r ∈ m, r.length ≤ 9223372036854775807) (t : ¬ MapOk m) :
    Calls Try.prog 15 #[.slice A m.length cap] w (IsErr w) :=
  (Check_any A cap m w h hlen hrl).mono fun e w' ⟨hs, c, he, hc⟩ => by
    cases c with
    | none => exact absurd (hc.1 rfl) t
    | some k => subst hs; exact ⟨World.Since.refl _ _, k, he⟩
/-- how far from place to place -/
def dOf (m : List (List Int)) (i j : Nat) : Int := (m.getD i []).getD j 0
theorem MapOk.at_ {m : List (List Int)} (t : MapOk m) {w : World} {A : Option Addr} (h : MapAt w A m) {i : Nat} (hi : i < m.length) :
    ∃ b off A' c, A = some ⟨b, off, none⟩ ∧ b < w.heap.size ∧ w.cell? ⟨b, off + i, none⟩ = some (.slice A' m.length c) ∧ ∀ j, j < m.length → ∃ b' off', A' = some ⟨b', off', none⟩ ∧ b' < w.heap.size ∧ w.cell? ⟨b', off' + j, none⟩ = some (.int .i64 (dOf m i j)) := by
  obtain ⟨b, off, hA, hb, hc⟩ := h i hi
  obtain ⟨A', c, h1, h2⟩ := hc i m[i] (List.getElem?_eq_getElem hi)
  have hl := t.row m[i] (List.getElem_mem _)
  rw [hl] at h1
  refine ⟨b, off, A', c, hA, hb, h1, fun j hj => ?_⟩
  obtain ⟨b', off', hA', hb', hc'⟩ := h2 j (by omega)
  refine ⟨b', off', hA', hb', ?_⟩
  rw [hc' j m[i][j] (List.getElem?_eq_getElem (by omega))]
  unfold dOf
  rw [List.getD_eq_getElem?_getD, List.getD_eq_getElem?_getD, List.getElem?_eq_getElem hi]
  simp only [Option.getD_some]
  rw [List.getElem?_eq_getElem (by omega)]
  rfl
theorem dOf_bd {m : List (List Int)} (t : MapOk m) (i j : Nat) : 0 ≤ dOf m i j ∧ dOf m i j ≤ 1000000000 := by
  unfold dOf
  rw [List.getD_eq_getElem?_getD, List.getD_eq_getElem?_getD]
  cases h : m[i]? with
  | none => simp
  | some r =>
    simp only [Option.getD_some]
    cases h2 : r[j]? with
    | none => simp
    | some x => exact t.ok r (List.mem_of_getElem? h) x (List.mem_of_getElem? h2)
end Go.Proofs.Ytlopcegpolpndaa
