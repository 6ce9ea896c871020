/- slices.Reverse on a row of the call's own, slices.Clone. -/
import Derived.Test.YtlopcegpolpndaaW2
import Derived.WalkSpells
import Derived.Maps.AppendAt
namespace Go.Proofs.Ytlopcegpolpndaa
open Go.RowKit PermM TripM

/-- only block B, and what is new, has turned -/
structure Only (w w' : World) (B : Nat) : Prop where
  os : w'.os = w.os
  tape : w'.tape = w.tape
  output : w'.output = w.output
  size : w.heap.size ≤ w'.heap.size
  block : ∀ k, k < w.heap.size → k ≠ B → w'.heap[k]? = w.heap[k]?
theorem Only.refl (w : World) (B : Nat) : Only w w B := ⟨rfl, rfl, rfl, Nat.le_refl _, fun _ _ _ => rfl⟩
theorem Only.drewN {w w' : World} {B : Nat} (h : Only w w' B) (n : Nat) : Only w (w'.drewN n) B := ⟨h.os, h.tape, h.output, h.size, h.block⟩
theorem Only.setCell {w w' : World} {B : Nat} (h : Only w w' B) (i : Nat) (v : Value) : Only w (w'.setCell ⟨B, i, none⟩ v) B :=
  ⟨h.os, h.tape, h.output, by simpa [World.setCell] using h.size, fun k hk hne => (Below.heap_setCell w' ⟨B, i, none⟩ v k hne).trans (h.block k hk hne)⟩
theorem Only.since {a w w' : World} {B : Nat} (h : Only w w' B) (hs : a.Since a.heap.size w) (hB : a.heap.size ≤ B) : a.Since a.heap.size w' :=
  ⟨h.os.trans hs.os, h.tape.trans hs.tape, h.output.trans hs.output, Nat.le_trans hs.size h.size, fun k hk => (h.block k (Nat.lt_of_lt_of_le hk hs.size) (by omega)).trans (hs.block k hk)⟩

def revF (off n : Nat) (f : Nat → Value) (i : Nat) : Value := if off ≤ i ∧ i < off + n then f (off + (off + n - 1 - i)) else f i
/-- the first j from both ends are exchanged -/
def revTo (off n j : Nat) (f : Nat → Value) (i : Nat) : Value := if (off ≤ i ∧ i < off + j) ∨ (off + n - j ≤ i ∧ i < off + n) then f (off + (off + n - 1 - i)) else f i
def RevPost (B N off n : Nat) (f : Nat → Value) (w : World) (e : Ending) (w' : World) : Prop :=
  e = .returned (.tuple #[]) ∧ Only w w' B ∧ w'.rowIs B 3 N (revF off n f)

set_option maxHeartbeats 2000000 in
theorem Reverse_any (B N off n cap : Nat) (f : Nat → Value) (w : World) (hn : n ≤ 1000) (hN : off + n ≤ N) (hr : w.rowIs B 3 N f) (hf : ∀ i, off ≤ i → i < off + n → ∃ x : Int, f i = .int .i64 x) :
    Calls Try.prog 20 #[.slice (some ⟨B, off, none⟩) n cap] w (RevPost B N off n f w) := by
  go_enter Try.func20, Try.ntmps20
  go_wp2
  go_loopg [2, 3] n (fun g i j wr => ∃ q : Nat, 2 * q ≤ n ∧ g = n - q ∧ i = .int .i64 q ∧ j = .int .i64 ((n : Int) - 1 - q) ∧ Only w wr B ∧ wr.rowIs B 3 N (revTo off n q f))
  case atStart =>
    refine ⟨0, by omega, by omega, rfl, by simp, Only.refl _ _, hr.congr (fun i hi => ?_)⟩
    unfold revTo
    rw [if_neg (by omega)]
  case round =>
    obtain ⟨q, hq, rfl, rfl, rfl, ho, hrr⟩ := hrel
    by_cases hlt : (q : Int) < (n : Int) - 1 - q
    · have e1 : (n : Int) - 1 - q = ((n - 1 - q : Nat) : Int) := by omega
      rw [e1] at hlt ⊢
      have hne : ¬ off + q = off + (n - 1 - q) := by omega
      have hne2 : ¬ off + (n - 1 - q) = off + q := by omega
      obtain ⟨x, hx⟩ := hf (off + q) (by omega) (by omega)
      obtain ⟨y, hy⟩ := hf (off + (n - 1 - q)) (by omega) (by omega)
      have v1 : revTo off n q f (off + q) = .int .i64 x := by unfold revTo; rw [if_neg (by omega), hx]
      have v2 : revTo off n q f (off + (n - 1 - q)) = .int .i64 y := by unfold revTo; rw [if_neg (by omega), hy]
      have c1 := hrr.cell (i := off + q) (by omega)
      have c2 := hrr.cell (i := off + (n - 1 - q)) (by omega)
      rw [v1] at c1
      rw [v2] at c2
      have f1 := hrr.frozen (off + q)
      have f2 := hrr.frozen (off + (n - 1 - q))
      have hz1 : (q : Int) < (n : Int) := by omega
      have hz2 : ((n - 1 - q : Nat) : Int) < (n : Int) := by omega
      have Hx := Lib.hid hx
      have Hy := Lib.hid hy
      have Hq := Lib.hid e1
      clear v1 v2 hx hy e1
      generalize hp : n - 1 - q = p at *
      have Hp := Lib.hid hp
      clear hp
      go_wp2
      go_region
      go_wp2
      go_roundg (n - (q + 1))
      case measure => go_light; omega
      case rel =>
        go_light
        have hp := Hp.out
        refine ⟨q + 1, by omega, by omega, by go_num, by congr 1; omega, ((ho.drewN _).setCell _ _).setCell _ _, ?_⟩
        refine (World.rowIs.set (World.rowIs.set (show (wr.drewN _).rowIs B 3 N _ from hrr) (off + q) _) (off + p) _).congr (fun i hi => ?_)
        unfold revTo
        by_cases a1 : i = off + p
        · subst a1
          rw [if_pos rfl, if_pos (by omega), ← Hx.out]
          congr 1; omega
        · rw [if_neg a1]
          by_cases a2 : i = off + q
          · subst a2
            rw [if_pos rfl, if_pos (by omega), ← Hy.out]
            congr 1; omega
          · rw [if_neg a2]
            by_cases a3 : (off ≤ i ∧ i < off + q) ∨ (off + n - q ≤ i ∧ i < off + n)
            · rw [if_pos a3, if_pos (by omega)]
            · rw [if_neg a3, if_neg (by omega)]
    · have hlt2 : (n : Int) - 1 - q ≤ (q : Int) := by omega
      go_wp2
      go_end0
      refine ⟨rfl, ho, hrr.congr (fun i hi => ?_)⟩
      unfold revTo revF
      by_cases a3 : (off ≤ i ∧ i < off + q) ∨ (off + n - q ≤ i ∧ i < off + n)
      · rw [if_pos a3, if_pos (by omega)]
      · rw [if_neg a3]
        by_cases a4 : off ≤ i ∧ i < off + n
        · rw [if_pos a4]
          -- the middle one
          congr 1; omega
        · rw [if_neg a4]

/-! Clone -/
def CloneV (xs : List Value) (w : World) (e : Ending) (w' : World) : Prop := w.Since w.heap.size w' ∧ ∃ v, e = .returned v ∧ w'.ownsRow w.heap.size 3 1 v xs.length xs
theorem own_since {w wr w1 : World} {e : TypeId} {size n : Nat} {v : Value} {xs : List Value} (hs : w.Since w.heap.size wr) (hown : wr.ownsRow w.heap.size e size v n xs) (hg : wr.grownBy w1 v.ownBlock) (hB : w.heap.size ≤ wr.heap.size) : w.Since w.heap.size w1 :=
  hs.grown hg hB (fun g hg => by
    rcases hown.2 with ⟨rfl, _⟩ | ⟨g', cap, cur, rfl, hle, _⟩
    · simp [Value.ownBlock] at hg
    · simp [Value.ownBlock] at hg; omega)
theorem own_empty (w : World) : (w.alloc (.cells #[] 3)).ownsRow w.heap.size 3 1 (.slice (some ⟨w.heap.size, 0, none⟩) 0 0) 0 [] :=
  ⟨by simp, .inr ⟨w.heap.size, 0, #[], rfl, Nat.le_refl _, heap_alloc_new w _, Nat.le_refl _, by unfold maxLen; omega, by simp, by simp⟩⟩
set_option maxHeartbeats 2000000 in
theorem Clone_any (a : Addr) (cap : Nat) (xs : List Value) (w : World) (hn : xs.length ≤ 1000) (ha : a.block < w.heap.size) (hr : ∀ j u, xs[j]? = some u → w.cell? (a.add j) = some u) (h1 : ∀ u ∈ xs, u.oneCell' = true) :
    Calls Try.prog 19 #[.slice (some a) xs.length cap] w (CloneV xs w) := by
  obtain ⟨i0, hi0, hz0, hz1, hz2⟩ := info_parts info_int
  have heq := fun W => Lib.run_eql_slice_nil (P := Try.prog) W 23 3 (some a) xs.length cap 0 0 Try.underlying23
  have hown := own_empty w
  have hs0 : w.Since w.heap.size (w.alloc (.cells #[] 3)) := (World.Since.refl _ _).alloc (Nat.le_refl _) _
  have hr2 : ∀ j u, xs[j]? = some u → (w.alloc (.cells #[] 3)).cell? (a.add j) = some u := fun j u hu => by
    rw [hs0.cell (by unfold Addr.add; split <;> exact ha)]; exact hr j u hu
  have Hr := Lib.hid hr2
  have H1 := Lib.hid h1
  clear hr hr2 h1
  go_enter Try.func19, Try.ntmps19
  go_wp2_with (at_builtin; refine wpList_append_own _ rfl _ _ 23 rfl w.heap.size 3 i0 (.int .i64 0) 1 8 Try.underlying23 hi0 hz0 hz1 hz2 rfl (by decide) _ _ _ rfl hown a xs.length cap xs rfl (by simp) Hr.out H1.out (by unfold maxLen; omega) (by omega) hs0.size ?_; intro v8 w8 hown8 hg8 _)
  have hs8 : w.Since w.heap.size w8 := own_since hs0 hown hg8 hs0.size
  go_wp2
  go_ret
  exact ⟨hs8, _, rfl, by simpa using hown8⟩
end Go.Proofs.Ytlopcegpolpndaa
