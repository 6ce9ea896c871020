/- depot: what the world holds throughout; Name. -/
import Derived.Test.YtgahgdgpncnffaaDoorLay
import Derived.Test.YtgahgdgpncnffaaDoorDepM
import Derived.WalkKit
import Derived.Lib.Hide
import Derived.Deep.OwnRows
import Derived.Deep.LoopGhost
import Derived.Deep.Light
import Derived.StillTailTactics
import Derived.BigQuiet
import Derived.Shelf.SlSortCmp.QuietGrown
namespace Go.Proofs.YtgahgdgpncnffaaDoor
open Go.RowKit Go.Lib DepM Go.Sort

/-- the variables that the library reads -/
structure Env (w : World) : Prop where
  mx : ∃ m : Int, w.cell? ⟨0, 0, none⟩ = some (.int .i64 m)
  syn : ∃ tp p, w.var? Tryd.prog "strconv.ErrSyntax" = some #[.iface tp p]
  rng : ∃ tp p, w.var? Tryd.prog "strconv.ErrRange" = some #[.iface tp p]
  tab : Lib.TabIs Tryd.prog w "internal/strconv.uint64pow10" .u64 Lib.pow10Tab
  low : 8 ≤ w.heap.size
theorem g1 : Tryd.prog.globalNamed "strconv.ErrSyntax" = some 1 := by kernel_rfl
theorem g2 : Tryd.prog.globalNamed "strconv.ErrRange" = some 2 := by kernel_rfl
theorem g5 : Tryd.prog.globalNamed "internal/strconv.uint64pow10" = some 5 := by kernel_rfl
theorem Env.since {w w' : World} {B : Nat} (h : Env w) (hs : w.Since B w') (hB : 8 ≤ B) : Env w' := by
  obtain ⟨m, hm⟩ := h.mx
  obtain ⟨t1, p1, h1⟩ := h.syn
  obtain ⟨t2, p2, h2⟩ := h.rng
  refine ⟨⟨m, ?_⟩, ⟨t1, p1, ?_⟩, ⟨t2, p2, ?_⟩, ?_, Nat.le_trans h.low hs.size⟩
  · rw [hs.cell (show (0 : Nat) < B by omega)]; exact hm
  · rw [hs.var g1 (by omega)]; exact h1
  · rw [hs.var g2 (by omega)]; exact h2
  · have := h.tab
    unfold Lib.TabIs at *
    rw [hs.var g5 (by omega)]; exact this
theorem since_of_below {w w' : World} {B : Nat} (h : Below B w w') : w.Since B w' := ⟨h.os, h.tape, h.output, h.size, h.block⟩
theorem since_grow (w : World) (k : Nat) (os : Array Obj) : w.Since w.heap.size (grow (w.drewN k) os) :=
  ⟨rfl, rfl, rfl, by show w.heap.size ≤ (w.heap ++ os).size; simp, fun i hi => by show (w.heap ++ os)[i]? = _; rw [Array.getElem?_append_left hi]⟩
theorem since_down {w w' : World} {B B' : Nat} (h : w.Since B w') (hB : B' ≤ B) : w.Since B' w' := ⟨h.os, h.tape, h.output, h.size, fun k hk => h.block k (Nat.lt_of_lt_of_le hk hB)⟩
theorem since_join {a w w' : World} (h : a.Since a.heap.size w) (k : w.Since w.heap.size w') : a.Since a.heap.size w' := h.trans (since_down k h.size)

theorem info116 : (Tryd.prog.info? (layTrim_ren.t 116)).map (fun i => (i.zero, i.size)) = some (some (.agg (Array.replicate 256 (.bool false))), 256) := by kernel_rfl
def cutB : ByteArray := ⟨#[97, 98, 99, 100, 101, 102, 103, 104, 105, 106, 107, 108, 109, 110, 111, 112, 113, 114, 115, 116, 117, 118, 119, 120, 121, 122, 48, 49, 50, 51, 52, 53, 54, 55, 56, 57]⟩
theorem dw_nil {p : UInt8 → Bool} : ∀ {l : List UInt8}, l.dropWhile p = [] ↔ ∀ x ∈ l, p x = true
  | [] => by simp
  | y :: l => by
    by_cases hy : p y = true
    · rw [List.dropWhile_cons_of_pos hy, dw_nil]; simp [hy]
    · rw [List.dropWhile_cons_of_neg hy]
      constructor
      · intro h; cases h
      · intro h; exact absurd (h y (List.mem_cons_self ..)) hy
theorem trim_nil {l cs : List UInt8} : Lib.trimS l cs = [] ↔ ∀ b ∈ l, b ∈ cs := by
  unfold Lib.trimS Lib.trimRightS Lib.trimLeftS
  constructor
  · intro h b hb
    have h1 := dw_nil.1 h
    have key : ∀ (r : List UInt8), (∀ x ∈ (r.dropWhile (cs.contains ·)).reverse, cs.contains x = true) → ∀ x ∈ r, cs.contains x = true := by
      intro r hr
      induction r with
      | nil => intro x hx; cases hx
      | cons y r ih =>
        intro x hx
        by_cases hy : cs.contains y = true
        · rw [List.dropWhile_cons_of_pos hy] at hr
          rcases List.mem_cons.1 hx with rfl | hx
          · exact hy
          · exact ih hr x hx
        · rw [List.dropWhile_cons_of_neg hy] at hr
          exact absurd (hr y (by simp)) hy
    have := key l.reverse h1 b (by simpa using hb)
    simpa using this
  · intro h
    have : l.reverse.dropWhile (cs.contains ·) = [] := dw_nil.2 (fun x hx => by simpa using h x (by simpa using hx))
    rw [this]; rfl
theorem Trim_any (s : ByteArray) (w : World) (hs : s.size ≤ 9223372036854775807) : Calls Tryd.prog 34 #[.string s, .string cutB] w fun e w' => e = .returned (.string ⟨(Lib.trimS s.data.toList cutset).toArray⟩) ∧ w.Since w.heap.size w' :=
  (Any.strings_Trim_laid layTrim info116 s cutB w hs (by decide) (ascii_of_all (show cutset.all (fun b => decide (b.toNat < 128)) = true by decide))).mono fun _ _ ⟨h1, h2⟩ => ⟨h1, since_of_below h2⟩
set_option maxHeartbeats 1000000 in
theorem Name_any (s : ByteArray) (w : World) (hs : s.size ≤ 9223372036854775807) : Calls Tryd.prog 24 #[.string s] w fun e w' => e = .returned (.bool (decide (nameOk s.data.toList))) ∧ w.Since w.heap.size w' := by
  have hsz : s.size = s.data.toList.length := (Array.length_toList (xs := s.data)).symm
  obtain ⟨ok, hok⟩ : ∃ ok, ok = decide (nameOk s.data.toList) := ⟨_, rfl⟩
  rw [← hok]
  by_cases h0 : s.data.toList = []
  · obtain rfl : ok = false := by rw [hok, decide_eq_false_iff_not]; exact fun h => h.1 h0
    have hb : s.toList.isEmpty = true := by rw [Lib.toList_data, h0]; rfl
    clear hok hsz h0
    go_enter Tryd.func24, Tryd.ntmps24
    go_wp2
    go_ret
    exact ⟨rfl, World.Since.refl _ _⟩
  have hb : s.toList.isEmpty = false := by rw [Lib.toList_data]; cases h : s.data.toList with
    | nil => exact absurd h h0
    | cons a l => rfl
  by_cases h12 : s.size ≤ 12
  · have C := Lib.hid (fun W => Trim_any s W hs)
    have hiff : nameOk s.data.toList ↔ Lib.trimS s.data.toList cutset = [] := by
      rw [trim_nil]
      exact ⟨fun h => h.2.2, fun h => ⟨h0, by omega, h⟩⟩
    obtain ⟨t, ht⟩ : ∃ t, t = Lib.trimS s.data.toList cutset := ⟨_, rfl⟩
    have hok2 : ok = t.isEmpty := by
      by_cases hx : t = []
      · rw [hok, decide_eq_true (hiff.2 (by rw [← ht]; exact hx)), hx]; rfl
      · rw [hok, decide_eq_false (fun h => hx (by rw [ht]; exact hiff.1 h))]
        cases t with
        | nil => exact absurd rfl hx
        | cons a l => rfl
    have Hok := Lib.hid hok2
    have HC : Hid (∀ W, Calls Tryd.prog 34 #[.string s, .string cutB] W fun e w' => e = .returned (.string ⟨t.toArray⟩) ∧ W.Since W.heap.size w') := Lib.hid (by rw [ht]; exact C.out)
    clear hok hok2 hsz h0 hiff C ht
    unfold cutB at HC
    have hte : (⟨t.toArray⟩ : ByteArray).toList.isEmpty = t.isEmpty := by rw [Lib.toList_data]
    have Hte := Lib.hid hte
    go_enter Tryd.func24, Tryd.ntmps24
    go_wp2_with fail
    refine (HC.out _).mono ?_
    rintro e w' ⟨rfl, hs'⟩
    have HS := Lib.hid hs'
    clear hs'
    go_wp2
    go_ret
    exact ⟨by rw [Hok.out, ← Hte.out]; rfl, HS.out⟩
  · obtain rfl : ok = false := by rw [hok, decide_eq_false_iff_not]; exact fun h => by have := h.2.1; omega
    clear hok hsz h0
    go_enter Tryd.func24, Tryd.ntmps24
    go_wp2
    go_ret
    exact ⟨rfl, World.Since.refl _ _⟩
end Go.Proofs.YtgahgdgpncnffaaDoor
