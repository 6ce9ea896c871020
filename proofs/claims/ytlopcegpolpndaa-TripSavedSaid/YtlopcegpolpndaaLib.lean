/- Words for slices of ints; contracts of slices.Index, Contains, IndexFunc, ContainsFunc, Max, pick. (From the template XLib.) -/
import Derived.Test.YtlopcegpolpndaaRows
import Derived.WalkKit
import Derived.Lib.Hide
import Derived.Deep.OwnRows
import Derived.Deep.LoopGhost
import Derived.Deep.Light
namespace Go.Proofs.Ytlopcegpolpndaa
open Go.RowKit

/-- a slice of ints reads as a list -/
def IntsAt (w : World) (A : Option Addr) (xs : List Int) : Prop :=
  ∀ k, k < xs.length → ∃ b off, A = some ⟨b, off, none⟩ ∧ b < w.heap.size ∧ ∀ (k : Nat) (x : Int), xs[k]? = some x → w.cell? ⟨b, off + k, none⟩ = some (.int .i64 x)
theorem IntsAt.since {w wr : World} {A : Option Addr} {xs : List Int} (h : IntsAt w A xs) {B : Nat} (hB : w.heap.size ≤ B) (hs : w.Since B wr) : IntsAt wr A xs := fun k hk => by
  obtain ⟨b, off, hA, hb, hc⟩ := h k hk
  have := hs.size
  exact ⟨b, off, hA, by omega, fun k x hx => by rw [hs.cell (a := ⟨b, off + k, none⟩) (by show b < B; omega)]; exact hc k x hx⟩
theorem IntsAt.row {w : World} {b : Nat} {t : TypeId} {xs : List Int} {n : Nat} (hn : n = xs.length) {f : Nat → Value} (hf : ∀ i, i < n → f i = .int .i64 (xs.getD i 0)) (h : w.rowIs b t n f) : IntsAt w (some ⟨b, 0, none⟩) xs := fun _ _ =>
  ⟨b, 0, rfl, h.lt, fun k x hx => by
    have hk := (List.getElem?_eq_some_iff.1 hx).1
    rw [Nat.zero_add, h.cell (by omega), hf k (by omega), List.getD_eq_getElem?_getD, hx]; rfl⟩

/-- the first place of v, or -1 -/
def idxI (v : Int) : List Int → Int
  | [] => -1
  | x :: xs => if v = x then 0 else if idxI v xs < 0 then -1 else idxI v xs + 1
theorem idxI_drop (v : Int) (xs : List Int) : ∀ (k : Nat), k < xs.length → (∀ j, j < k → xs[j]? ≠ some v) → xs[k]? = some v → idxI v xs = k := by
  induction xs with
  | nil => intro k hk; simp at hk
  | cons x xs ih =>
    intro k hk hn he
    match k with
    | 0 => simp at he; simp [idxI, he]
    | k + 1 =>
      have h0 := hn 0 (by omega)
      simp at h0 hk he
      have := ih k hk (fun j hj => by have := hn (j + 1) (by omega); simpa using this) he
      rw [idxI, if_neg (fun e => h0 e.symm), if_neg (by omega), this]; omega
theorem idxI_none (v : Int) (xs : List Int) : v ∉ xs → idxI v xs = -1 := by
  induction xs with
  | nil => intro _; rfl
  | cons x xs ih =>
    intro h
    simp at h
    rw [idxI, if_neg h.1, if_pos (by rw [ih h.2]; omega)]
theorem idxI_bd (v : Int) (xs : List Int) : -1 ≤ idxI v xs ∧ idxI v xs ≤ xs.length := by
  induction xs with
  | nil => simp [idxI]
  | cons x xs ih => rw [idxI]; split <;> simp <;> (try split) <;> omega
theorem idxI_mem (v : Int) (xs : List Int) : 0 ≤ idxI v xs ↔ v ∈ xs := by
  induction xs with
  | nil => simp [idxI]
  | cons x xs ih =>
    rw [idxI, List.mem_cons, ← ih]
    by_cases h : v = x
    · simp [h]
    · rw [if_neg h]; split <;> simp [h] <;> omega

set_option maxHeartbeats 1000000 in
theorem Index_any (A : Option Addr) (cap : Nat) (xs : List Int) (v : Int) (w : World) (h : IntsAt w A xs) (hlen : xs.length ≤ 1000000000) :
    Calls Try.prog 28 #[.slice A xs.length cap, .int .i64 v] w fun e w' => e = .returned (.int .i64 (idxI v xs)) ∧ w = w' := by
  go_enter Try.func28, Try.ntmps28
  go_wp2
  go_loopg [8] xs.length (fun g i wr => ∃ k : Nat, k ≤ xs.length ∧ g = xs.length - k ∧ i = .int .i64 k ∧ w = wr ∧ Hid (∀ j, j < k → xs[j]? ≠ some v))
  case atStart => exact ⟨0, Nat.zero_le _, rfl, rfl, rfl, Lib.hid (fun j hj => absurd hj (by omega))⟩
  case round =>
    obtain ⟨k, hk, rfl, rfl, rfl, hno⟩ := hrel
    by_cases hkl : k < xs.length
    · have hkz : (k : Int) < (xs.length : Int) := by omega
      obtain ⟨b, off, rfl, hb, hc⟩ := h k hkl
      obtain ⟨x, hx⟩ : ∃ x, xs[k]? = some x := ⟨xs[k], List.getElem?_eq_getElem hkl⟩
      have c0 := hc k x hx
      have Hx := Lib.hid hx
      clear hc hx
      by_cases hv : v = x
      · subst hv
        go_wp2
        go_ret
        exact ⟨by rw [idxI_drop v xs k hkl hno.out Hx.out]; rfl, rfl⟩
      · have hb1 : (v == x) = false := beq_eq_false_iff_ne.2 hv
        go_wp2
        go_roundg (xs.length - (k + 1))
        case measure => go_light; omega
        case rel =>
          go_light
          refine ⟨k + 1, by omega, rfl, by go_num, rfl, Lib.hid (fun j hj => ?_)⟩
          by_cases hjk : j = k
          · subst hjk; rw [Hx.out]; intro e; injection e with e; exact hv e.symm
          · exact hno.out j (by omega)
    · obtain rfl : xs.length = k := by omega
      have hn : v ∉ xs := fun hm => by
        obtain ⟨j, hj, he⟩ := List.getElem_of_mem hm
        exact hno.out j hj (by rw [List.getElem?_eq_getElem hj, he])
      have Hn := Lib.hid hn
      clear hn
      go_wp2
      go_ret
      exact ⟨by rw [idxI_none v xs Hn.out]; rfl, rfl⟩

set_option maxHeartbeats 1000000 in
theorem Contains_any (A : Option Addr) (cap : Nat) (xs : List Int) (v : Int) (w : World) (h : IntsAt w A xs) (hlen : xs.length ≤ 1000000000) :
    Calls Try.prog 17 #[.slice A xs.length cap, .int .i64 v] w fun e w' => e = .returned (.bool (decide (v ∈ xs))) ∧ w = w' := by
  have hm := idxI_mem v xs
  have c1 := Lib.hid (Index_any A cap xs v w h hlen)
  generalize idxI v xs = r at hm c1
  have Hd : Hid (decide (v ∈ xs) = decide (0 ≤ r)) := Lib.hid (by simp only [hm])
  clear hm
  obtain ⟨t, ht⟩ : ∃ t, decide (0 ≤ r) = t := ⟨_, rfl⟩
  have hdec := Lib.hid ht
  cases t
  all_goals
    go_enter Try.func17, Try.ntmps17
    go_wp2_with fail
    refine c1.out.mono ?_
    rintro e w' ⟨rfl, rfl⟩
    go_wp2
    go_ret
    exact ⟨by rw [Hd.out, hdec.out]; rfl, rfl⟩

def idxP (p : Int → Bool) : List Int → Int
  | [] => -1
  | x :: xs => if p x then 0 else if idxP p xs < 0 then -1 else idxP p xs + 1
theorem idxP_at (p : Int → Bool) (xs : List Int) : ∀ (k : Nat) (x : Int), (∀ j y, j < k → xs[j]? = some y → p y = false) → xs[k]? = some x → p x = true → idxP p xs = k := by
  induction xs with
  | nil => intro k x _ hk; simp at hk
  | cons a xs ih =>
    intro k x hn he hp
    match k with
    | 0 => simp at he; subst he; simp [idxP, hp]
    | k + 1 =>
      have h0 := hn 0 a (by omega) (by simp)
      simp at he
      have := ih k x (fun j y hj hy => hn (j + 1) y (by omega) (by simpa using hy)) he hp
      rw [idxP, if_neg (by simp [h0]), if_neg (by omega), this]; omega
theorem idxP_none (p : Int → Bool) (xs : List Int) : (∀ x ∈ xs, p x = false) → idxP p xs = -1 := by
  induction xs with
  | nil => intro _; rfl
  | cons x xs ih =>
    intro h
    simp at h
    rw [idxP, if_neg (by simp [h.1]), if_pos (by rw [ih h.2]; omega)]
theorem idxP_mem (p : Int → Bool) (xs : List Int) : 0 ≤ idxP p xs ↔ xs.any p = true := by
  induction xs with
  | nil => simp [idxP]
  | cons x xs ih =>
    rw [idxP, List.any_cons, Bool.or_eq_true, ← ih]
    by_cases h : p x = true
    · simp [h]
    · rw [if_neg h]; split <;> simp [h] <;> omega

/-- a function value that answers p, and turns nothing -/
def Asks (g : FuncId) (lb : Array Value) (p : Int → Bool) (w : World) : Prop := ∀ x : Int, Calls Try.prog g (#[.int .i64 x] ++ lb) w fun e w' => e = .returned (.bool (p x)) ∧ w = w'
theorem Asks.call {g : FuncId} {lb : Array Value} {p : Int → Bool} {w : World} (h : Asks g lb p w) (x : Int) {t : Bool} (ht : p x = t) : Calls Try.prog g (#[.int .i64 x] ++ lb) w fun e w' => e = .returned (.bool t) ∧ w = w' := by
  rw [← ht]; exact h x
set_option maxHeartbeats 1000000 in
theorem IndexFunc_any (A : Option Addr) (cap : Nat) (xs : List Int) (g : FuncId) (lb : Array Value) (p : Int → Bool) (w : World) (eg : ∀ args w, (callFunc g args).run Try.prog w = .ok (.enter g args) w) (hp : Asks g lb p w) (h : IntsAt w A xs) (hlen : xs.length ≤ 1000000000) :
    Calls Try.prog 32 #[.slice A xs.length cap, .func (.func g) #[] lb] w fun e w' => e = .returned (.int .i64 (idxP p xs)) ∧ w = w' := by
  go_enter Try.func32, Try.ntmps32
  go_wp2
  go_loopg [8] xs.length (fun g i wr => ∃ k : Nat, k ≤ xs.length ∧ g = xs.length - k ∧ i = .int .i64 k ∧ w = wr ∧ Hid (∀ j y, j < k → xs[j]? = some y → p y = false))
  case atStart => exact ⟨0, Nat.zero_le _, rfl, rfl, rfl, Lib.hid (fun j y hj => absurd hj (by omega))⟩
  case round =>
    obtain ⟨k, hk, rfl, rfl, rfl, hno⟩ := hrel
    by_cases hkl : k < xs.length
    · have hkz : (k : Int) < (xs.length : Int) := by omega
      obtain ⟨b, off, rfl, hb, hc⟩ := h k hkl
      obtain ⟨x, hx⟩ : ∃ x, xs[k]? = some x := ⟨xs[k], List.getElem?_eq_getElem hkl⟩
      have c0 := hc k x hx
      have Hx := Lib.hid hx
      clear hc hx
      obtain ⟨t, ht⟩ : ∃ t, p x = t := ⟨_, rfl⟩
      have c1 := Lib.hid (hp.call x ht)
      have Ht := Lib.hid ht
      clear ht
      cases t
      · go_wp2_with fail
        refine c1.out.mono ?_
        rintro e w' ⟨rfl, rfl⟩
        go_wp2
        go_roundg (xs.length - (k + 1))
        case measure => go_light; omega
        case rel =>
          go_light
          refine ⟨k + 1, by omega, rfl, by go_num, rfl, Lib.hid (fun j y hj hy => ?_)⟩
          by_cases hjk : j = k
          · subst hjk; rw [Hx.out] at hy; injection hy with e; rw [← e]; exact Ht.out
          · exact hno.out j y (by omega) hy
      · go_wp2_with fail
        refine c1.out.mono ?_
        rintro e w' ⟨rfl, rfl⟩
        go_wp2
        go_ret
        exact ⟨by rw [idxP_at p xs k x hno.out Hx.out Ht.out]; rfl, rfl⟩
    · obtain rfl : xs.length = k := by omega
      have hn : ∀ x ∈ xs, p x = false := fun x hm => by
        obtain ⟨j, hj, he⟩ := List.getElem_of_mem hm
        exact hno.out j x hj (by rw [List.getElem?_eq_getElem hj, he])
      have Hn := Lib.hid hn
      clear hn
      go_wp2
      go_ret
      exact ⟨by rw [idxP_none p xs Hn.out]; rfl, rfl⟩

set_option maxHeartbeats 1000000 in
theorem ContainsFunc_any (A : Option Addr) (cap : Nat) (xs : List Int) (g : FuncId) (lb : Array Value) (p : Int → Bool) (w : World) (eg : ∀ args w, (callFunc g args).run Try.prog w = .ok (.enter g args) w) (hp : Asks g lb p w) (h : IntsAt w A xs) (hlen : xs.length ≤ 1000000000) :
    Calls Try.prog 26 #[.slice A xs.length cap, .func (.func g) #[] lb] w fun e w' => e = .returned (.bool (xs.any p)) ∧ w = w' := by
  have hm := idxP_mem p xs
  have c1 := Lib.hid (IndexFunc_any A cap xs g lb p w eg hp h hlen)
  generalize idxP p xs = r at hm c1
  have Hd : Hid (xs.any p = decide (0 ≤ r)) := Lib.hid (by rw [Bool.eq_iff_iff, ← hm]; simp)
  clear hm
  obtain ⟨t, ht⟩ : ∃ t, decide (0 ≤ r) = t := ⟨_, rfl⟩
  have hdec := Lib.hid ht
  cases t
  all_goals
    go_enter Try.func26, Try.ntmps26
    go_wp2_with fail
    refine c1.out.mono ?_
    rintro e w' ⟨rfl, rfl⟩
    go_wp2
    go_ret
    exact ⟨by rw [Hd.out, hdec.out]; rfl, rfl⟩

def pickF (a n : Int) : Int := (a % 18446744073709551616) % n
theorem pickF_bd (a n : Int) (hn : 1 ≤ n) : 0 ≤ pickF a n ∧ pickF a n < n := ⟨Int.emod_nonneg _ (by omega), Int.emod_lt_of_pos _ (by omega)⟩
theorem pick_val (a n : Int) (hn : 1 ≤ n) (hn2 : n ≤ 4611686018427387903) : wrap64 ((IntKind.u64.wrap a).tmod n) = pickF a n := by
  have e : IntKind.u64.wrap a = a % 18446744073709551616 := by simp [IntKind.wrap, IntKind.bits, IntKind.signed]
  have h0 : 0 ≤ a % 18446744073709551616 := Int.emod_nonneg _ (by omega)
  rw [e, Int.tmod_eq_emod_of_nonneg h0]
  have := pickF_bd a n hn
  unfold pickF at *
  unfold wrap64
  generalize a % 18446744073709551616 % n = r at *
  omega
set_option maxHeartbeats 400000 in
theorem pick_any (a n : Int) (w : World) (hn : 1 ≤ n) (hn2 : n ≤ 4611686018427387903) :
    Calls Try.prog 16 #[.int .i64 a, .int .i64 n] w fun e w' => e = .returned (.int .i64 (pickF a n)) ∧ w = w' := by
  have hp := Lib.hid (pick_val a n hn hn2)
  go_enter Try.func16, Try.ntmps16
  go_wp2
  go_ret
  exact ⟨by rw [hp.out]; rfl, rfl⟩
end Go.Proofs.Ytlopcegpolpndaa
