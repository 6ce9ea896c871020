/- slices' insertion sort by a function, swapRange, rotate, on a row of the call's own. (From the template XStabA.) -/
import Derived.Test.YtjndmehhdgiphaaStabM
import Derived.Test.YtjndmehhdgiphaaLib
import Derived.StillTailTactics
import Derived.RegionTactic
import Derived.Deep.DeepCutAuto
import Derived.BigQuiet
import Derived.BigRegion
import Derived.Deep.QuietTactic
import Derived.Outline
namespace Go.Proofs.Ytjndmehhdgiphaa
open Go.RowKit StabM

/-- only block B, and what is new, has turned -/
structure OnlyB (w w' : World) (B : Nat) : Prop where
  os : w'.os = w.os
  tape : w'.tape = w.tape
  output : w'.output = w.output
  size : w.heap.size ≤ w'.heap.size
  block : ∀ k, k < w.heap.size → k ≠ B → w'.heap[k]? = w.heap[k]?
theorem OnlyB.refl (w : World) (B : Nat) : OnlyB w w B := ⟨rfl, rfl, rfl, Nat.le_refl _, fun _ _ _ => rfl⟩
theorem OnlyB.trans {w w' w'' : World} {B : Nat} (h : OnlyB w w' B) (k : OnlyB w' w'' B) : OnlyB w w'' B :=
  ⟨k.os.trans h.os, k.tape.trans h.tape, k.output.trans h.output, Nat.le_trans h.size k.size, fun i hi hne => (k.block i (Nat.lt_of_lt_of_le hi h.size) hne).trans (h.block i hi hne)⟩
theorem OnlyB.drewN {w w' : World} {B : Nat} (h : OnlyB w w' B) (n : Nat) : OnlyB w (w'.drewN n) B := ⟨h.os, h.tape, h.output, h.size, h.block⟩
theorem OnlyB.drew {w w' : World} {B : Nat} (h : OnlyB w w' B) : OnlyB w w'.drew B := ⟨h.os, h.tape, h.output, h.size, h.block⟩
theorem OnlyB.setCell {w w' : World} {B : Nat} (h : OnlyB w w' B) (i : Nat) (v : Value) : OnlyB w (w'.setCell ⟨B, i, none⟩ v) B :=
  ⟨h.os, h.tape, h.output, by simpa [World.setCell] using h.size, fun k hk hne => (Below.heap_setCell w' ⟨B, i, none⟩ v k hne).trans (h.block k hk hne)⟩
theorem OnlyB.call {w W W' : World} {B : Nat} (h : OnlyB w W B) (hs : W.Since W.heap.size W') : OnlyB w W' B :=
  ⟨hs.os.trans h.os, hs.tape.trans h.tape, hs.output.trans h.output, Nat.le_trans h.size hs.size, fun k hk hne => (hs.block k (Nat.lt_of_lt_of_le hk h.size)).trans (h.block k hk hne)⟩
theorem OnlyB.since {a w w' : World} {B : Nat} (h : OnlyB w w' B) (hs : a.Since a.heap.size w) (hB : a.heap.size ≤ B) : a.Since a.heap.size w' :=
  ⟨h.os.trans hs.os, h.tape.trans hs.tape, h.output.trans hs.output, Nat.le_trans hs.size h.size, fun k hk => (h.block k (Nat.lt_of_lt_of_le hk hs.size) (by omega)).trans (hs.block k hk)⟩
theorem OnlyB.cell {w w' : World} {B : Nat} (h : OnlyB w w' B) {a : Addr} (ha : a.block < w.heap.size) (hne : a.block ≠ B) : w'.cell? a = w.cell? a := World.cell?_of_block (h.block _ ha hne)

def natF (f : Nat → Nat) (i : Nat) : Value := .int .i64 (f i : Nat)
/-- a comparison that answers cf of numbers below M, whatever row B holds -/
def CmpOk (g : FuncId) (lb : Array Value) (cf : Nat → Nat → Int) (M B : Nat) (w : World) : Prop :=
  ∀ W, OnlyB w W B → ∀ x y : Nat, x < M → y < M → Calls Try.prog g (#[.int .i64 (x : Nat), .int .i64 (y : Nat)] ++ lb) W fun e w' => e = .returned (.int .i64 (cf x y)) ∧ W.Since W.heap.size w'
theorem CmpOk.on {g : FuncId} {lb : Array Value} {cf : Nat → Nat → Int} {M B : Nat} {w w' : World} (h : CmpOk g lb cf M B w) (ho : OnlyB w w' B) : CmpOk g lb cf M B w' := fun W hW => h W (ho.trans hW)
def RowPost (B N : Nat) (P : (Nat → Nat) → Prop) (w : World) (e : Ending) (w' : World) : Prop :=
  e = .returned (.tuple #[]) ∧ OnlyB w w' B ∧ ∃ f, w'.rowIs B 3 N (natF f) ∧ P f
theorem rowIs_nat {w : World} {B N : Nat} {f g : Nat → Nat} (h : w.rowIs B 3 N (natF f)) (e : ∀ i, i < N → f i = g i) : w.rowIs B 3 N (natF g) := h.congr (fun i hi => by unfold natF; rw [e i hi])
theorem swp_row {w : World} {B N : Nat} {f : Nat → Nat} (h : w.rowIs B 3 N (natF f)) (i j : Nat) : ((w.setCell ⟨B, i, none⟩ (.int .i64 (f j : Nat))).setCell ⟨B, j, none⟩ (.int .i64 (f i : Nat))).rowIs B 3 N (natF (swp f i j)) :=
  ((h.set i _).set j _).congr (fun k _ => by
    unfold natF swp
    by_cases e1 : k = j
    · rw [if_pos e1, if_pos e1]
    · rw [if_neg e1, if_neg e1]
      by_cases e2 : k = i
      · rw [if_pos e2, if_pos e2]
      · rw [if_neg e2, if_neg e2])
set_option maxHeartbeats 4000000 in
theorem swapRange_any (B N n cap a b c : Nat) (f : Nat → Nat) (fv : Value) (w : World) (hn : n ≤ 1000) (hN : n ≤ N) (hr : w.rowIs B 3 N (natF f)) (hab : a + c ≤ b) (hb : b + c ≤ n) :
    Calls Try.prog 37 #[.slice (some ⟨B, 0, none⟩) n cap, .int .i64 (a : Nat), .int .i64 (b : Nat), .int .i64 (c : Nat), fv] w (RowPost B N (fun g => ∀ k, g k = swr f a b c k) w) := by
  go_enter Try.func37, Try.ntmps37
  go_wp2
  go_loopg [10] c (fun g i wr => ∃ (q : Nat) (h : Nat → Nat), q ≤ c ∧ g = c - q ∧ i = .int .i64 (q : Nat) ∧ OnlyB w wr B ∧ wr.rowIs B 3 N (natF h) ∧ Hid (∀ k, h k = swr f a b q k))
  case atStart =>
    refine ⟨0, f, Nat.zero_le _, rfl, rfl, OnlyB.refl _ _, hr, Lib.hid (fun k => ?_)⟩
    unfold swr
    rw [if_neg (by omega), if_neg (by omega)]
  case round =>
    obtain ⟨q, h, hq, rfl, rfl, ho, hrow, hh⟩ := hrel
    by_cases hlt : q < c
    · have hqz : (q : Int) < (c : Int) := by omega
      have c1 := hrow.cell (i := a + q) (by omega)
      have c2 := hrow.cell (i := b + q) (by omega)
      have f1 := hrow.frozen (a + q)
      have f2 := hrow.frozen (b + q)
      have hne : ¬ a + q = b + q := by omega
      have hne2 : ¬ b + q = a + q := by omega
      have hz1 : (a : Int) + (q : Int) < (n : Int) := by omega
      have hz2 : (b : Int) + (q : Int) < (n : Int) := by omega
      have hz3 : ((a + q : Nat) : Int) < (n : Int) := by omega
      have hz4 : ((b + q : Nat) : Int) < (n : Int) := by omega
      unfold natF at c1 c2
      have hsw := swp_row hrow (a + q) (b + q)
      obtain ⟨x, hx⟩ : ∃ x, x = h (a + q) := ⟨_, rfl⟩
      obtain ⟨y, hy⟩ : ∃ y, y = h (b + q) := ⟨_, rfl⟩
      rw [← hx] at c1
      rw [← hy] at c2
      rw [← hx, ← hy] at hsw
      have Hsw := Lib.hid hsw
      have Hx := Lib.hid hx
      have Hy := Lib.hid hy
      have ho2 := (ho.setCell (a + q) (.int .i64 (y : Nat))).setCell (b + q) (.int .i64 (x : Nat))
      have Ho2 := Lib.hid ho2
      clear hx hy hsw ho2 hrow
      go_wp2
      go_region
      go_wp2
      go_roundg (c - (q + 1))
      case measure => go_light; omega
      case rel =>
        go_light
        exact ⟨q + 1, swp h (a + q) (b + q), by omega, rfl, by go_num, Ho2.out.drew, Hsw.out.drew, Lib.hid (swr_succ (by omega) hh.out)⟩
    · obtain rfl : q = c := by omega
      go_wp2
      go_end0
      exact ⟨rfl, ho, h, hrow, hh.out⟩
set_option maxHeartbeats 4000000 in
theorem rotate_any (B N n cap a m b : Nat) (f : Nat → Nat) (fv : Value) (w : World) (hn : n ≤ 1000) (hN : n ≤ N) (hr : w.rowIs B 3 N (natF f)) (ham : a < m) (hmb : m < b) (hb : b ≤ n) :
    Calls Try.prog 36 #[.slice (some ⟨B, 0, none⟩) n cap, .int .i64 (a : Nat), .int .i64 (m : Nat), .int .i64 (b : Nat), fv] w (RowPost B N (fun g => ∀ k, g k = turned f a m b k) w) := by
  have e1 : (m : Int) - (a : Int) = ((m - a : Nat) : Int) := by omega
  have e2 : (b : Int) - (m : Int) = ((b - m : Nat) : Int) := by omega
  have E1 := Lib.hid e1
  have E2 := Lib.hid e2
  clear e1 e2
  go_enter Try.func36, Try.ntmps36
  go_upto_region 2 with fail
  rw [E1.out, E2.out]
  obtain ⟨i0, hi0⟩ : ∃ i0, i0 = m - a := ⟨_, rfl⟩
  obtain ⟨j0, hj0⟩ : ∃ j0, j0 = b - m := ⟨_, rfl⟩
  rw [← hi0, ← hj0]
  have HS : Hid (Rot f a m b i0 j0 f) := Lib.hid (by rw [hi0, hj0]; exact Rot.start f ham hmb)
  clear hi0 hj0 E1 E2
  go_loopg [10, 11] (i0 + j0) (fun g iv jv wr => ∃ (i j : Nat) (h : Nat → Nat), g = i + j ∧ iv = .int .i64 (i : Nat) ∧ jv = .int .i64 (j : Nat) ∧ OnlyB w wr B ∧ wr.rowIs B 3 N (natF h) ∧ Hid (Rot f a m b i j h))
  case atStart => exact ⟨i0, j0, f, rfl, rfl, rfl, OnlyB.refl _ _, hr, HS⟩
  case round =>
    obtain ⟨i, j, h, rfl, rfl, rfl, ho, hrow, hR⟩ := hrel
    obtain ⟨i1, i2, i3⟩ := hR.out.ib
    obtain ⟨j1, j2⟩ := hR.out.jb
    have e3 : (m : Int) - (i : Int) = ((m - i : Nat) : Int) := by omega
    have e4 : (m : Int) + (j : Int) - (i : Int) = ((m + j - i : Nat) : Int) := by omega
    have E3 := Lib.hid e3
    have E4 := Lib.hid e4
    clear e3 e4
    by_cases hij : i = j
    · subst hij
      have hbe : ((i : Int) != (i : Int)) = false := by simp
      have C := Lib.hid (swapRange_any B N n cap (m - i) m i h fv wr hn hN hrow (by omega) (by omega))
      go_wp2_with fail
      rw [E3.out]
      refine C.out.mono ?_
      rintro e w2 ⟨rfl, ho2, g2, hrow2, hg2⟩
      go_wp2
      go_end0
      exact ⟨rfl, ho.trans ho2, g2, hrow2, fun k => by rw [hg2]; exact hR.out.end k⟩
    · have hbe : ((i : Int) != (j : Int)) = true := by simp; omega
      by_cases hlt : j < i
      · have hltz : (j : Int) < (i : Int) := by omega
        have C := Lib.hid (swapRange_any B N n cap (m - i) m j h fv wr hn hN hrow (by omega) (by omega))
        have e5 : (i : Int) - (j : Int) = ((i - j : Nat) : Int) := by omega
        have E5 := Lib.hid e5
        clear e5
        go_wp2_with fail
        rw [E3.out]
        refine C.out.mono ?_
        rintro e w2 ⟨rfl, ho2, g2, hrow2, hg2⟩
        have hR2 := hR.out.more hlt
        rw [show swr h (m - i) m j = g2 from funext (fun k => (hg2 k).symm)] at hR2
        have HR2 := Lib.hid hR2
        clear hR2 hg2
        go_wp2
        go_roundg (i - j + j)
        case measure => go_light; omega
        case rel =>
          go_light
          exact ⟨i - j, j, g2, rfl, by rw [E5.out], rfl, ho.trans ho2, hrow2, HR2⟩
      · have hle : i < j := by omega
        have hlez : (i : Int) ≤ (j : Int) := by omega
        have C := Lib.hid (swapRange_any B N n cap (m - i) (m + j - i) i h fv wr hn hN hrow (by omega) (by omega))
        have e5 : (j : Int) - (i : Int) = ((j - i : Nat) : Int) := by omega
        have E5 := Lib.hid e5
        clear e5
        go_wp2_with fail
        rw [E3.out, E4.out]
        refine C.out.mono ?_
        rintro e w2 ⟨rfl, ho2, g2, hrow2, hg2⟩
        have hR2 := hR.out.less hle
        rw [show swr h (m - i) (m + j - i) i = g2 from funext (fun k => (hg2 k).symm)] at hR2
        have HR2 := Lib.hid hR2
        clear hR2 hg2
        go_wp2
        go_roundg (i + (j - i))
        case measure => go_light; omega
        case rel =>
          go_light
          exact ⟨i, j - i, g2, rfl, rfl, by rw [E5.out], ho.trans ho2, hrow2, HR2⟩
end Go.Proofs.Ytjndmehhdgiphaa
