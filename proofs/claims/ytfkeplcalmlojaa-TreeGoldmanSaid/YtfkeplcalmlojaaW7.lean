/- slices.Grow at nil, slices.Concat over slices of edges. -/
import Derived.Test.YtfkeplcalmlojaaW6
import Derived.Lib.AppendZeros
import Derived.Lib.AppendZerosOnto
namespace Go.Proofs.Ytfkeplcalmlojaa
open Go.RowKit TreeM

theorem info31 : (Try.prog.info? 31).map (fun i => (i.zero, i.size, i.bytes)) = some (some (.agg #[.int .i64 0, .int .i64 0, .int .i64 0]), 3, 24) := by kernel_rfl

def GrowPost (w : World) (e : Ending) (w' : World) : Prop := ∃ v, e = .returned v ∧ w'.ownsRow w.heap.size 31 3 v 0 [] ∧ w.Since w.heap.size w'

theorem zeroCells_size (c : Array Value) (n : Nat) : (Builtin.zeroCells c n).size = n * c.size := by simp [Builtin.zeroCells]
theorem own_new (w : World) (C : Array Value) (G : Nat) (hC : C.size = G * 3) (hG : G ≤ maxLen) : ((w.alloc (.cells C 31)).drew).ownsRow w.heap.size 31 3 (.slice (some ⟨w.heap.size, 0, none⟩) 0 G) 0 [] :=
  ⟨by simp, .inr ⟨w.heap.size, G, C, rfl, Nat.le_refl _, heap_alloc_new w _, Nat.zero_le _, hG, hC, by simp⟩⟩

set_option maxHeartbeats 2000000 in
theorem Grow_nil (n : Nat) (w : World) (hn : n ≤ 1000) : Calls Try.prog 21 #[.slice none 0 0, .int .i64 n] w (GrowPost w) := by
  by_cases h0 : n = 0
  · subst h0
    go_enter Try.func21, Try.ntmps21
    go_wp2
    go_ret
    exact ⟨_, rfl, ⟨by simp, .inl ⟨rfl, rfl⟩⟩, World.Since.refl _ _⟩
  · obtain ⟨i0, hi, hz0, hz1, hz2⟩ := info_parts info31
    have hpos : 0 < n := by omega
    have hrz : ∀ ty, (Builtin.append_ #[22, 3] ty #[.slice none 0 0, .int .i64 (n : Int)]).run Try.prog w =
      .ok (.slice (some ⟨w.heap.size, 0, none⟩) n (grownCap w n 0 31)) (w.drew.alloc (.cells (Builtin.zeroCells (Value.agg #[.int .i64 0, .int .i64 0, .int .i64 0]).cells n ++ Builtin.zeroCells (Value.agg #[.int .i64 0, .int .i64 0, .int .i64 0]).cells (grownCap w n 0 31 - n)) 31)) := fun ty =>
      Lib.run_append_nil_zeros w 22 3 ty 31 i0 _ .i64 .i64 Try.underlying22 Try.underlying3 hi hz0 n hpos (by omega) (by omega) (by rw [hz2]; omega)
    have hG1 : n ≤ grownCap w n 0 31 := grownCap_ge w _ _ _
    have hG2 := grownCap_le_maxLen w n 0 31 (by unfold maxLen; omega)
    have hpz : (0 : Int) < (n : Int) := by omega
    generalize grownCap w n 0 31 = G at hrz hG1 hG2
    go_enter Try.func21, Try.ntmps21
    go_wp2_with (at_builtin; refine Lib.wpList_append_run _ rfl _ _ _ _ rfl _ _ rfl rfl _ _ (hrz _) ?_)
    go_ret
    exact ⟨_, rfl, own_new w _ G (by rw [Array.size_append, zeroCells_size, zeroCells_size]; simp; omega) hG2, ((World.Since.refl _ _).alloc (Nat.le_refl _) _).drew⟩

/-! Concat -/
structure Src where
  ad : Addr
  m : Nat
  c : Nat
  xs : List Value
def Src.v (s : Src) : Value := .slice (some s.ad) s.m s.c
def SrcOk (w : World) (s : Src) : Prop := s.ad.block < w.heap.size ∧ s.xs.length = s.m * 3 ∧ (∀ j u, s.xs[j]? = some u → w.cell? (s.ad.add j) = some u) ∧ ∀ u ∈ s.xs, u.oneCell' = true
theorem add_block (a : Addr) (n : Nat) : (a.add n).block = a.block := by unfold Addr.add; split <;> rfl
theorem SrcOk.since {w wr : World} {s : Src} (h : SrcOk w s) (hs : w.Since w.heap.size wr) : SrcOk wr s :=
  ⟨Nat.lt_of_lt_of_le h.1 hs.size, h.2.1, fun j u hu => (hs.cell (by rw [add_block]; exact h.1)).trans (h.2.2.1 j u hu), h.2.2.2⟩
def tot (l : List Src) : Nat := (l.map Src.m).sum
def cat (l : List Src) : List Value := l.flatMap Src.xs
theorem tot_snoc (l : List Src) (s : Src) : tot (l ++ [s]) = tot l + s.m := by simp [tot]
theorem cat_snoc (l : List Src) (s : Src) : cat (l ++ [s]) = cat l ++ s.xs := by simp [cat]
theorem tot_le (l : List Src) (k : Nat) : tot (l.take k) ≤ tot l := by
  have h : tot l = tot (l.take k) + tot (l.drop k) := by
    rw [tot, tot, tot, ← List.sum_append, ← List.map_append, List.take_append_drop]
  omega
def CatPost (l : List Src) (w : World) (e : Ending) (w' : World) : Prop := ∃ v, e = .returned v ∧ w'.ownsRow w.heap.size 31 3 v (tot l) (cat l) ∧ w.Since w.heap.size w'

theorem own_since {w wr w1 : World} {e : TypeId} {size n : Nat} {v : Value} {xs : List Value} (hs : w.Since w.heap.size wr) (hown : wr.ownsRow w.heap.size e size v n xs) (hg : wr.grownBy w1 v.ownBlock) (hB : w.heap.size ≤ wr.heap.size) : w.Since w.heap.size w1 :=
  hs.grown hg hB (fun g hg => by
    rcases hown.2 with ⟨rfl, _⟩ | ⟨g', cap, cur, rfl, hle, _⟩
    · simp [Value.ownBlock] at hg
    · simp [Value.ownBlock] at hg; omega)
set_option maxHeartbeats 2000000 in
theorem Concat_any (b : Nat) (l : List Src) (w : World) (hl : l.length ≤ 100) (hrow : w.rowIs b 22 l.length (fun i => (l[i]?.map Src.v).getD undef)) (hok : ∀ s ∈ l, SrcOk w s) (htot : tot l ≤ 1000) :
    Calls Try.prog 17 #[.slice (some ⟨b, 0, none⟩) l.length l.length] w (CatPost l w) := by
  obtain ⟨i0, hi0, hz0, hz1, hz2⟩ := info_parts info31
  have Hi0 := Lib.hid hi0
  have Hz0 := Lib.hid hz0
  have Hz1 := Lib.hid hz1
  have Hz2 := Lib.hid hz2
  clear hi0 hz0 hz1 hz2
  have hcell : ∀ k (s : Src), l[k]? = some s → w.cell? ⟨b, k, none⟩ = some (.slice (some s.ad) s.m s.c) := fun k s hk => by
    rw [hrow.cell (List.getElem?_eq_some_iff.1 hk).1, hk]; rfl
  have hb := hrow.lt
  have Hc := Lib.hid hcell
  clear hcell
  go_enter Try.func17, Try.ntmps17
  go_wp2
  go_loopg [3, 11] l.length (fun g sz i wr => ∃ k : Nat, k ≤ l.length ∧ g = l.length - k ∧ i = .int .i64 k ∧ sz = .int .i64 (tot (l.take k) : Nat) ∧ w = wr)
  case atStart => exact ⟨0, Nat.zero_le _, rfl, rfl, rfl, rfl⟩
  case round =>
    obtain ⟨k, hk, rfl, rfl, rfl, rfl⟩ := hrel
    by_cases hkl : k < l.length
    · have hkz : (k : Int) < (l.length : Int) := by omega
      obtain ⟨s, hs⟩ : ∃ s, l[k]? = some s := ⟨l[k], List.getElem?_eq_getElem hkl⟩
      have c0 := Hc.out k s hs
      have hts : tot (l.take (k + 1)) = tot (l.take k) + s.m := by rw [take_snoc' hs, tot_snoc]
      have ht2 := tot_le l (k + 1)
      generalize hT1 : tot (l.take k) = t1 at hts ⊢
      have hsm : t1 + s.m ≤ 1000 := by omega
      have Hts := Lib.hid hts
      clear hs ht2 hts hT1
      go_wp2
      go_roundg (l.length - (k + 1))
      case measure => go_light; omega
      case rel =>
        go_light
        exact ⟨k + 1, by omega, rfl, by go_num, by rw [Hts.out]; go_num, rfl⟩
    · obtain rfl : l.length = k := by omega
      have hT : tot (l.take l.length) = tot l := by rw [List.take_of_length_le (Nat.le_refl _)]
      rw [hT]
      clear hT
      go_wp2_with fail
      refine (Grow_nil (tot l) w htot).mono ?_
      rintro e w0 ⟨v0, rfl, hown0, hs0⟩
      go_wp2
      go_loopg [6, 27] l.length (fun g v i wr => ∃ k : Nat, k ≤ l.length ∧ g = l.length - k ∧ i = .int .i64 k ∧ w.Since w.heap.size wr ∧ wr.ownsRow w.heap.size 31 3 v (tot (l.take k)) (cat (l.take k)))
      case atStart => exact ⟨0, Nat.zero_le _, rfl, rfl, hs0, hown0⟩
      case round =>
        clear hown0 hs0
        rename_i v
        obtain ⟨k, hk, rfl, rfl, hs, hown⟩ := hrel
        by_cases hkl : k < l.length
        · have hkz : (k : Int) < (l.length : Int) := by omega
          obtain ⟨s, hsk⟩ : ∃ s, l[k]? = some s := ⟨l[k], List.getElem?_eq_getElem hkl⟩
          have c0 := Hc.out k s hsk
          rw [← hs.cell (show b < w.heap.size from hb)] at c0
          have hso := (hok s (List.mem_of_getElem? hsk)).since hs
          have hts : tot (l.take (k + 1)) = tot (l.take k) + s.m := by rw [take_snoc' hsk, tot_snoc]
          have hcs : cat (l.take (k + 1)) = cat (l.take k) ++ s.xs := by rw [take_snoc' hsk, cat_snoc]
          have ht2 := tot_le l (k + 1)
          have hsm : tot (l.take k) + s.m ≤ 1000 := by omega
          have Hts := Lib.hid hts
          have Hcs := Lib.hid hcs
          have Hso := Lib.hid hso
          clear hsk hts hcs ht2 hso
          have hB := hs.size
          go_wp2_with (at_builtin; refine wpList_append_own _ rfl _ _ 22 rfl w.heap.size 31 i0 _ 3 24 Try.underlying22 Hi0.out Hz0.out Hz1.out Hz2.out rfl (by decide) _ _ _ rfl hown s.ad s.m s.c s.xs rfl Hso.out.2.1 Hso.out.2.2.1 Hso.out.2.2.2 (by unfold maxLen; omega) (by omega) hB ?_; intro v1 w1 hown1 hg1 _)
          have hs1 : w.Since w.heap.size w1 := own_since hs hown hg1 hB
          clear hown
          go_wp2
          go_roundg (l.length - (k + 1))
          case measure => go_light; omega
          case rel =>
            go_light
            exact ⟨k + 1, by omega, rfl, by go_num, hs1, by rw [Hts.out, Hcs.out]; exact hown1⟩
        · obtain rfl : l.length = k := by omega
          go_wp2
          go_ret
          refine ⟨_, rfl, ?_, hs⟩
          rw [List.take_of_length_le (Nat.le_refl _)] at hown
          exact hown
end Go.Proofs.Ytfkeplcalmlojaa
