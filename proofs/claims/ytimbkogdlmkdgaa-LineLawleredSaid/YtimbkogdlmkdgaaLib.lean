/- Words for slices of ints; contracts of slices.Index, Contains, IndexFunc, ContainsFunc, Max, pick. (From the template XLib.) -/
import Derived.Test.YtimbkogdlmkdgaaRows
import Derived.WalkKit
import Derived.Lib.Hide
import Derived.Deep.OwnRows
import Derived.Deep.LoopGhost
import Derived.Deep.Light
namespace Go.Proofs.Ytimbkogdlmkdgaa
open Go.RowKit

/-- a slice of ints reads as a list -/
def IntsAt (w : World) (A : Option Addr) (xs : List Int) : Prop :=
  ∀ k, k < xs.length → ∃ b off, A = some ⟨b, off, none⟩ ∧ b < w.heap.size ∧ ∀ (k : Nat) (x : Int), xs[k]? = some x → w.cell? ⟨b, off + k, none⟩ = some (.int .i64 x)
theorem IntsAt.since {w wr : World} {A : Option Addr} {xs : List Int} (h : IntsAt w A xs) {B : Nat} (hB : w.heap.size ≤ B) (hs : w.Since B wr) : IntsAt wr A xs := fun k hk => by
  obtain ⟨b, off, hA, hb, hc⟩ := h k hk
  have := hs.size
  exact ⟨b, off, hA, by omega, fun k x hx => by rw [hs.cell (a := ⟨b, off + k, none⟩) (by show b < B; omega)]; exact hc k x hx⟩
theorem IntsAt.row {w : World} {b : Nat} {t : TypeId} {xs : List Int} {n : Nat} (hn : n = xs.length) {f : Nat → Value} (hf : ∀ i, i < n → f i = .int .i64 (xs.getD i 0)) (h : w.rowIs b t n f) : IntsAt w (some ⟨b, 0, none⟩) xs := fun _ _ =>
  ⟨b, 0, rfl, h.lt, fun k x hx => by
    have hk := (List.getElem?_eq_some_iff.1 hx).1
    rw [Nat.zero_add, h.cell (by omega), hf k (by omega), List.getD_eq_getElem?_getD, hx]; rfl⟩





def pickF (a n : Int) : Int := (a % 18446744073709551616) % n
theorem pickF_bd (a n : Int) (hn : 1 ≤ n) : 0 ≤ pickF a n ∧ pickF a n < n := ⟨Int.emod_nonneg _ (by omega), Int.emod_lt_of_pos _ (by omega)⟩
theorem pick_val (a n : Int) (hn : 1 ≤ n) (hn2 : n ≤ 4611686018427387903) : wrap64 ((IntKind.u64.wrap a).tmod n) = pickF a n := by
  have e : IntKind.u64.wrap a = a % 18446744073709551616 := by simp [IntKind.wrap, IntKind.bits, IntKind.signed]
  have h0 : 0 ≤ a % 18446744073709551616 := Int.emod_nonneg _ (by omega)
  rw [e, Int.tmod_eq_emod_of_nonneg h0]
  have := pickF_bd a n hn
  unfold pickF at *
  unfold wrap64
  generalize a % 18446744073709551616 % n = r at *
  omega
set_option maxHeartbeats 400000 in
theorem pick_any (a n : Int) (w : World) (hn : 1 ≤ n) (hn2 : n ≤ 4611686018427387903) :
    Calls Try.prog 21 #[.int .i64 a, .int .i64 n] w fun e w' => e = .returned (.int .i64 (pickF a n)) ∧ w = w' := by
  have hp := Lib.hid (pick_val a n hn hn2)
  go_enter Try.func21, Try.ntmps21
  go_wp2
  go_ret
  exact ⟨by rw [hp.out]; rfl, rfl⟩
end Go.Proofs.Ytimbkogdlmkdgaa
