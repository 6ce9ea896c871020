/- depot: a depot in memory; may. -/
import Derived.Test.YtgahgdgpncnffaaDoorD2
import Derived.Maps.RangeWalk
import Derived.Maps.OwnSet
import Derived.Lib.AppendStr
import Derived.Deep.RegionHeld3
import Derived.Deep.AppendLies
import Derived.Deep.RegionLaw
namespace Go.Proofs.YtgahgdgpncnffaaDoor
open Go.RowKit Go.Lib DepM Go.Sort Go.Maps

theorem K9 : Keyed Tryd.prog 9 := string_keyed Tryd.underlying9
theorem key9 (t : ByteArray) (h : t.size ≤ maxLen) : keyOf Tryd.prog 9 (.string t) = some (.string t.data.toList) := WideMaps.keyOf_string_mk Tryd.underlying9 h
/-- what the map says -/
def HvMap (w : World) (B : Nat) (mv : Value) (k : Nat) (hvf : Bs → Int) : Prop :=
  (mv = .map none ∧ ∀ t, hvf t = 0) ∨ ∃ mb n D, mv = .map (some mb) ∧ B ≤ mb ∧ n ≤ k ∧ w.ownsMap (H := Unit) Tryd.prog 9 (plainElem Tryd.prog 3) mb n D ∧ IsMap D ∧ ∀ t, D.atKey (.string t) (.lit (.int .i64 0)) = .lit (.int .i64 (hvf t))
def mapBlock (mv : Value) : Option Nat := match mv with
  | .map x => x
  | _ => none
theorem HvMap.lookup {w : World} {B k : Nat} {mv : Value} {hvf : Bs → Int} (h : HvMap w B mv k hvf) {t : ByteArray} (ht : t.size ≤ maxLen) : (Instr.lookup 35 mv (.string t) false).run Tryd.prog w = .ok (.int .i64 (hvf t.data.toList)) w := by
  rcases h with ⟨rfl, h0⟩ | ⟨mb, n, D, rfl, _, _, ho, _, hat⟩
  · have := Maps.look_nil (P := Tryd.prog) (w := w) false K9 Tryd.underlying35 (z := .int .i64 0) (by kernel_rfl) (key9 t ht)
    rw [if_neg (by decide)] at this
    have e : (Value.int .i64 0) = .int .i64 (hvf t.data.toList) := by rw [h0]
    rw [e] at this
    exact this
  · obtain ⟨c, hrun, hc, _⟩ := ho.lookup_int K9 Tryd.underlying35 Tryd.underlying3 (by kernel_rfl) (key9 t ht)
    rw [hat] at hc
    have hc2 : hvf t.data.toList = c := by simpa using hc
    rw [hc2]
    exact hrun
theorem HvMap.kept {w w' : World} {B k : Nat} {mv : Value} {hvf : Bs → Int} {row : Option Nat} (h : HvMap w B mv k hvf) (hg : w.grownBy w' row) (hne : ∀ b, mv = .map (some b) → some b ≠ row) : HvMap w' B mv k hvf := by
  rcases h with h | ⟨mb, n, D, rfl, h1, h2, ho, h3⟩
  · exact .inl h
  · exact .inr ⟨mb, n, D, rfl, h1, h2, ho.kept hg (hne mb rfl), h3⟩
/-- the block of a depot -/
def Tag (w : World) (db : Nat) : Prop := ∃ c fr, w.heap[db]? = some (.cells c 37 fr)
theorem Tag.block {w w' : World} {db : Nat} (h : Tag w db) (hb : w'.heap[db]? = w.heap[db]?) : Tag w' db := by
  obtain ⟨c, fr, h⟩ := h
  exact ⟨c, fr, by rw [hb]; exact h⟩
theorem Tag.set {w : World} {db : Nat} (h : Tag w db) (i : Nat) (v : Value) : Tag (w.setCell ⟨db, i, none⟩ v) db := by
  obtain ⟨c, fr, h⟩ := h
  exact ⟨c.setIfInBounds i v, fr, by simp [World.setCell, Array.getElem?_modify, h]⟩
theorem Tag.ne {w : World} {db base size n : Nat} {v : Value} {xs : List Value} (h : Tag w db) (hr : w.ownsRow base 5 size v n xs) : v.ownBlock ≠ some db := fun e => by
  obtain ⟨c, fr, h⟩ := h
  rcases hr.2 with ⟨rfl, _⟩ | ⟨g, cap, cur, rfl, _, hg, _⟩
  · simp [Value.ownBlock] at e
  · simp [Value.ownBlock] at e
    subst e
    rw [h] at hg
    injection hg with hg
    injection hg with _ hg
    cases hg
theorem map_ne {w : World} {mb base size n m : Nat} {v : Value} {xs : List Value} {D : DataW Unit} (h : w.ownsMap Tryd.prog 9 (plainElem Tryd.prog 3) mb m D) (hr : w.ownsRow base 5 size v n xs) : v.ownBlock ≠ some mb := fun e => by
  obtain ⟨es, clock, h, _⟩ := h
  rcases hr.2 with ⟨rfl, _⟩ | ⟨g, cap, cur, rfl, _, hg, _⟩
  · simp [Value.ownBlock] at e
  · simp [Value.ownBlock] at e
    subst e
    rw [h] at hg
    injection hg with hg
    cases hg
theorem map_neTag {w : World} {mb db m : Nat} {D : DataW Unit} (h : w.ownsMap Tryd.prog 9 (plainElem Tryd.prog 3) mb m D) (hr : Tag w db) : mb ≠ db := fun e => by
  obtain ⟨es, clock, h, _⟩ := h
  obtain ⟨c, fr, hr⟩ := hr
  subst e
  rw [h] at hr
  injection hr with hr
  cases hr
/-- a depot at block db: its map, its journal, its count -/
structure DepMem (w : World) (B db : Nat) (acc : List Mv) (mv jv : Value) : Prop where
  c0 : w.cell? ⟨db, 0, none⟩ = some mv
  c1 : w.cell? ⟨db, 1, none⟩ = some jv
  c2 : w.cell? ⟨db, 2, none⟩ = some (.int .i64 (acc.length : Int))
  fz : ∀ i, w.frozen? ⟨db, i, none⟩ = false
  low : B ≤ db
  row : w.ownsRow B 5 1 jv (J acc).length (strCells (strB (J acc)))
  ne : jv.ownBlock ≠ some db
  map : HvMap w B mv acc.length (hv acc)
  nm : ∀ b, mv = .map (some b) → b ≠ db ∧ jv.ownBlock ≠ some b
  tag : Tag w db
theorem DepMem.lt {w : World} {B db : Nat} {acc : List Mv} {mv jv : Value} (h : DepMem w B db acc mv jv) : db < w.heap.size := World.block_lt_of_cell? _ _ h.c0
theorem since_gb {w w' : World} (h : w.Since w.heap.size w') : w.grownBy w' none := ⟨h.os, h.tape, h.output, h.size, fun k hk _ => h.block k hk⟩
theorem own_keep {w w' : World} {base : Nat} {e : TypeId} {size n : Nat} {v : Value} {xs : List Value} (h : w.ownsRow base e size v n xs) (hb : ∀ g, v.ownBlock = some g → w'.heap[g]? = w.heap[g]?) : w'.ownsRow base e size v n xs := by
  refine ⟨h.1, ?_⟩
  rcases h.2 with hn | ⟨g, cap, cur, rfl, hle, hg, rest⟩
  · exact .inl hn
  · exact .inr ⟨g, cap, cur, rfl, hle, by rw [hb g rfl]; exact hg, rest⟩
theorem DepMem.since {w w' : World} {B db : Nat} {acc : List Mv} {mv jv : Value} (h : DepMem w B db acc mv jv) (hs : w.Since w.heap.size w') : DepMem w' B db acc mv jv := by
  have hl := h.lt
  exact ⟨by rw [hs.cell hl]; exact h.c0, by rw [hs.cell hl]; exact h.c1, by rw [hs.cell hl]; exact h.c2, fun i => by rw [hs.frozen (a := ⟨db, i, none⟩) hl]; exact h.fz i, h.low,
    own_keep h.row (fun g hg => hs.block g (h.row.lt g hg).2), h.ne, h.map.kept (since_gb hs) (by simp), h.nm, h.tag.block (hs.block db hl)⟩
theorem since_drewN' {w wr : World} {B : Nat} (h : w.Since B wr) (n : Nat) : w.Since B (wr.drewN n) := ⟨h.os, h.tape, h.output, h.size, h.block⟩
def mayB (acc : List Mv) (m : Mv) : Option Int := if ¬ nameOk m.1 then some 5 else if ¬ muchOk m.2 then some 2 else if hv acc m.1 + m.2 < 0 then some 8 else if acc.length = 500 then some 4 else none
theorem mayB_none {acc : List Mv} {m : Mv} : mayB acc m = none ↔ may acc m := by
  unfold mayB may
  split
  · rename_i h; exact ⟨fun h' => (by cases h'), fun h' => absurd h'.1 h⟩
  · rename_i h1
    split
    · rename_i h; exact ⟨fun h' => (by cases h'), fun h' => absurd h'.2.1 h⟩
    · rename_i h2
      split
      · rename_i h; exact ⟨fun h' => (by cases h'), fun h' => absurd h'.2.2.1 (by omega)⟩
      · rename_i h3
        split
        · rename_i h; exact ⟨fun h' => (by cases h'), fun h' => absurd h h'.2.2.2⟩
        · rename_i h4; exact ⟨fun _ => ⟨Decidable.not_not.1 h1, Decidable.not_not.1 h2, by omega, h4⟩, fun _ => rfl⟩
def errO (c : Option Int) : Value := match c with
  | none => .nilIface
  | some k => .iface 56 (.int .i64 k)
set_option maxHeartbeats 4000000 in
theorem may_any {w : World} {B db : Nat} {acc : List Mv} {mv jv : Value} (h : DepMem w B db acc mv jv) (t : ByteArray) (v : Int) (ht : t.size ≤ maxLen) (hb : -1000000000 ≤ hv acc t.data.toList ∧ hv acc t.data.toList ≤ 1000000000) :
    Calls Tryd.prog 18 #[.pointer (some ⟨db, 0, none⟩), .agg #[.string t, .int .i64 v]] w fun e w' => e = .returned (errO (mayB acc (t.data.toList, v))) ∧ w.Since w.heap.size w' := by
  have hmixed : Tryd.prog.follows .mixedOrders = true := layItoa.mixed
  obtain ⟨px, hpx⟩ : ∃ px, px = w.heap.size := ⟨_, rfl⟩
  have hs1 : w.Since w.heap.size (w.alloc (.cells #[.string t, .int .i64 v] 42)) := (World.Since.refl _ _).alloc (Nat.le_refl _) _
  have y0 : (w.alloc (.cells #[.string t, .int .i64 v] 42)).cell? ⟨px, 0, none⟩ = some (.string t) := by rw [World.cell?_alloc_at _ _ _ _ hpx]; rfl
  have y1 : (w.alloc (.cells #[.string t, .int .i64 v] 42)).cell? ⟨px, 1, none⟩ = some (.int .i64 v) := by rw [World.cell?_alloc_at _ _ _ _ hpx]; rfl
  have hlt : px < (w.alloc (.cells #[.string t, .int .i64 v] 42)).heap.size := by simp [hpx]
  have HS1 := Lib.hid hs1
  have HD1 := Lib.hid (h.since hs1)
  clear h hs1
  obtain ⟨c, hc⟩ : ∃ c, c = mayB acc (t.data.toList, v) := ⟨_, rfl⟩
  rw [← hc]
  go_enter Tryd.func18, Tryd.ntmps18
  go_upto_region 1 with fail
  rw [← hpx]
  clear hpx
  generalize w.alloc (.cells #[.string t, .int .i64 v] 42) = w1 at *
  have C1 := Lib.hid (Name_any t w1 (by unfold maxLen at ht; omega))
  by_cases hn : nameOk t.data.toList
  case neg =>
    obtain rfl : c = some 5 := by rw [hc]; unfold mayB; rw [if_pos hn]
    clear hc
    have Hn := Lib.hid (decide_eq_false hn)
    clear hn
    go_wp2_with fail
    refine C1.out.mono ?_
    rintro e w2 ⟨rfl, hs2⟩
    have HS2 := Lib.hid hs2
    clear hs2
    rw [Hn.out]
    go_wp2
    go_ret
    exact ⟨rfl, HS1.out.trans (since_down HS2.out HS1.out.size)⟩
  have Hn := Lib.hid (decide_eq_true hn)
  have HN := Lib.hid hn
  clear hn
  by_cases hm : muchOk v
  case neg =>
    obtain rfl : c = some 2 := by rw [hc]; unfold mayB; rw [if_neg (by simpa using HN.out), if_pos hm]
    clear hc
    have hv : v = 0 ∨ v < -1000000 ∨ 1000000 < v := by unfold muchOk at hm; omega
    clear hm
    go_wp2_with fail
    refine C1.out.mono ?_
    rintro e w2 ⟨rfl, hs2⟩
    have HS2 := Lib.hid (HS1.out.trans (since_down hs2 HS1.out.size))
    rw [← hs2.cell (a := ⟨px, 1, none⟩) hlt] at y1
    clear hs2 y0
    rw [Hn.out]
    rcases hv with hv | hv | hv
    · subst hv
      go_wp2
      go_ret
      exact ⟨rfl, HS2.out⟩
    · have hz : (v == 0) = false := by rw [beq_eq_false_iff_ne]; omega
      go_wp2
      go_ret
      exact ⟨rfl, HS2.out⟩
    · have hz : (v == 0) = false := by rw [beq_eq_false_iff_ne]; omega
      have hz2 : -1000000 ≤ v := by omega
      go_wp2
      go_ret
      exact ⟨rfl, HS2.out⟩
  have hz : (v == 0) = false := by rw [beq_eq_false_iff_ne]; exact hm.1
  have hz2 : -1000000 ≤ v := hm.2.1
  have hz3 : v ≤ 1000000 := hm.2.2
  have HMu := Lib.hid hm
  clear hm
  obtain ⟨a, ha⟩ : ∃ a, a = hv acc t.data.toList := ⟨_, rfl⟩
  rw [← ha] at hb
  have Ha := Lib.hid ha
  obtain ⟨b0, b1⟩ := hb
  obtain ⟨n, hn⟩ : ∃ n, n = acc.length := ⟨_, rfl⟩
  go_wp2_with fail
  refine C1.out.mono ?_
  rintro e w2 ⟨rfl, hs2⟩
  have HS2 := Lib.hid (HS1.out.trans (since_down hs2 HS1.out.size))
  have HD2 := HD1.out.since hs2
  rw [← hs2.cell (a := ⟨px, 0, none⟩) hlt] at y0
  rw [← hs2.cell (a := ⟨px, 1, none⟩) hlt] at y1
  have z0 := HD2.c0
  have z2 := HD2.c2
  have hlk : ∀ q, (Instr.lookup 35 mv (.string t) false).run Tryd.prog (w2.drewN q) = .ok (.int .i64 a) (w2.drewN q) := fun q => by
    rw [ha]
    exact (HD2.map.kept (w' := w2.drewN q) (row := none) ⟨rfl, rfl, rfl, Nat.le_refl _, fun _ _ _ => rfl⟩ (by simp)).lookup ht
  rw [← hn] at z2
  have Hacc := Lib.hid hn
  clear hs2 HD2 HD1 ha hn hlt
  rw [Hn.out]
  by_cases hneg : a + v < 0
  · obtain rfl : c = some 8 := by rw [hc]; unfold mayB; rw [if_neg (by simpa using HN.out), if_neg (by simpa using HMu.out), if_pos (by rw [← Ha.out]; exact hneg)]
    clear hc
    go_wp2
    go_quiet (fail)
    go_wp2
    go_ret
    exact ⟨rfl, since_drewN' HS2.out _⟩
  · have hneg' : 0 ≤ a + v := by omega
    by_cases h5 : n = 500
    · obtain rfl : c = some 4 := by rw [hc]; unfold mayB; rw [if_neg (by simpa using HN.out), if_neg (by simpa using HMu.out), if_neg (by rw [← Ha.out]; omega), if_pos (by rw [← Hacc.out]; exact h5)]
      have hq : ((n : Int) == 500) = true := by rw [beq_iff_eq]; omega
      clear hc hneg h5
      go_wp2
      go_quiet (fail)
      go_wp2
      go_ret
      exact ⟨rfl, since_drewN' HS2.out _⟩
    · obtain rfl : c = none := by rw [hc]; unfold mayB; rw [if_neg (by simpa using HN.out), if_neg (by simpa using HMu.out), if_neg (by rw [← Ha.out]; omega), if_neg (by rw [← Hacc.out]; exact h5)]
      have hq : ((n : Int) == 500) = false := by rw [beq_eq_false_iff_ne]; omega
      clear hc hneg h5
      go_wp2
      go_quiet (fail)
      go_wp2
      go_ret
      exact ⟨rfl, since_drewN' HS2.out _⟩
end Go.Proofs.YtgahgdgpncnffaaDoor
