/- line: Lawler. -/
import Derived.Test.YtimbkogdlmkdgaaW8
import Derived.Test.YtimbkogdlmkdgaaMaps
import Derived.Test.YtimbkogdlmkdgaaLawM
namespace Go.Proofs.Ytimbkogdlmkdgaa
open Go.RowKit PermM StabM LineM

/-- those that must be ahead of i -/
def ahd (m : List (List Int)) (i : Nat) : List Int := m.getD i []
theorem ahd_at {m : List (List Int)} {i : Nat} {r : List Int} (h : m[i]? = some r) : ahd m i = r := by
  unfold ahd; rw [List.getD_eq_getElem?_getD, h]; rfl
def allL (js : List Tri) : Int := sumI (lg js) (List.range js.length)
def LawRes (js : List Tri) (m : List (List Int)) (w' : World) (e : Ending) : Prop :=
  (∃ k, e = .returned (.tuple #[.slice none 0 0, .int .i64 0, .iface 46 (.int .i64 k)])) ∨
  (TasksOk js ∧ m.length = js.length ∧ (∀ x, x < js.length → ∀ k ∈ ahd m x, 0 ≤ k ∧ k < (js.length : Int)) ∧
    ∃ (s : List Nat) (c : Int) (g : Nat), e = .returned (.tuple #[.slice (some ⟨g, 0, none⟩) js.length js.length, .int .i64 c, .nilIface]) ∧
      s.length = js.length ∧ LawSt js.length (lg js) (wg js) (du js) (ahd m) (allL js) s c ∧ IntsAt w' (some ⟨g, 0, none⟩) (ints s))
def LawPost (js : List Tri) (m : List (List Int)) (w : World) (e : Ending) (w' : World) : Prop := w.Since w.heap.size w' ∧ LawRes js m w' e
theorem LawPost.bad {js : List Tri} {m : List (List Int)} {w w' : World} (k : Int) (hs : w.Since w.heap.size w') : LawPost js m w (.returned (.tuple #[.slice none 0 0, .int .i64 0, .iface 46 (.int .i64 k)])) w' := ⟨hs, .inl ⟨k, rfl⟩⟩
theorem le_sum_mem {x : Nat} : ∀ {l : List Nat}, x ∈ l → x ≤ l.sum
  | [], h => by simp at h
  | y :: l, h => by
    rw [List.sum_cons]
    rcases List.mem_cons.1 h with rfl | h
    · omega
    · have := le_sum_mem h; omega
theorem sum_le_of {l : List Nat} : ∀ {k : Nat}, (l.take k).sum ≤ l.sum := by
  induction l with
  | nil => simp
  | cons x l ih => intro k; cases k with
    | zero => simp
    | succ k => simp only [List.take_succ_cons, List.sum_cons]; have := ih (k := k); omega
theorem len_rows (m : List (List Int)) (n : Nat) (h : m.length = n) : ((List.range n).map (fun x => (ahd m x).length)) = m.map List.length := by
  apply List.ext_getElem?
  intro i
  by_cases hi : i < n
  · rw [List.getElem?_map, List.getElem?_range hi, List.getElem?_map, List.getElem?_eq_getElem (show i < m.length by omega)]
    simp only [Option.map_some]
    rw [ahd_at (List.getElem?_eq_getElem (show i < m.length by omega))]
  · rw [List.getElem?_eq_none (by simp; omega), List.getElem?_eq_none (by simp; omega)]
theorem left_few {m : List (List Int)} {n : Nat} (h : m.length = n) {k : Nat} (hk : k ≤ n) (s : List Nat) (z : Nat) : left' (ahd m) s z k ≤ ((m.map List.length).take k).sum := by
  have h1 := left_le (A := ahd m) (s := s) (z := z) k
  rw [← len_rows m n h, ← List.map_take, List.take_range, Nat.min_eq_left hk]
  exact h1
/-- the best so far of those that nothing must stand behind any more -/
structure BestL (n : Nat) (p w d : Nat → Int) (A : Nat → List Int) (T : Int) (s : List Nat) (i : Nat) (bv lv : Int) : Prop where
  none : bv < 0 → ∀ z, z < i → z ∉ s → ¬ open' n A s z
  some : 0 ≤ bv → ∃ b : Nat, bv = b ∧ b < n ∧ b ∉ s ∧ open' n A s b ∧ lv = lateC p w d T s b
  least : 0 ≤ bv → ∀ z, z < i → z ∉ s → open' n A s z → lv ≤ lateC p w d T s z
section
variable {n : Nat} {p w d : Nat → Int} {A : Nat → List Int} {T : Int} {s : List Nat} {i : Nat} {bv lv : Int}
theorem BestL.start : BestL n p w d A T s 0 (-1) 0 := ⟨fun _ z hz => absurd hz (by omega), fun h => absurd h (by omega), fun h => absurd h (by omega)⟩
theorem BestL.skip (h : BestL n p w d A T s i bv lv) (hi : i ∉ s → ¬ open' n A s i) : BestL n p w d A T s (i + 1) bv lv :=
  ⟨fun h0 z hz hs => by
    by_cases e : z = i
    · subst e; exact hi hs
    · exact h.none h0 z (by omega) hs, h.some, fun h0 z hz hs ho => by
    by_cases e : z = i
    · subst e; exact absurd ho (hi hs)
    · exact h.least h0 z (by omega) hs ho⟩
theorem BestL.keep (h : BestL n p w d A T s i bv lv) (hb : 0 ≤ bv) (hc : lv ≤ lateC p w d T s i) : BestL n p w d A T s (i + 1) bv lv :=
  ⟨fun h0 => absurd h0 (by omega), h.some, fun h0 z hz hs ho => by
    by_cases e : z = i
    · subst e; exact hc
    · exact h.least h0 z (by omega) hs ho⟩
theorem BestL.take (h : BestL n p w d A T s i bv lv) (hin : i < n) (hi : i ∉ s) (ho : open' n A s i) (hc : bv < 0 ∨ lateC p w d T s i ≤ lv) : BestL n p w d A T s (i + 1) i (lateC p w d T s i) :=
  ⟨fun h0 => absurd h0 (by omega), fun _ => ⟨i, rfl, hin, hi, ho, rfl⟩, fun _ z hz hs hoz => by
    by_cases e : z = i
    · subst e; exact Int.le_refl _
    · by_cases hb : bv < 0
      · exact absurd hoz (h.none hb z (by omega) hs)
      · rcases hc with hc | hc
        · exact absurd hc hb
        · exact Int.le_trans hc (h.least (by omega) z (by omega) hs hoz)⟩
end
/-- the three rows -/
structure LawW (w wr : World) (B B2 B3 n : Nat) (f : Nat → Nat) (g : Nat → Value) (h : Nat → Bool) : Prop where
  since : w.Since w.heap.size wr
  beh : wr.rowIs B 3 n (fun z => .int .i64 (f z : Nat))
  row : wr.rowIs B2 3 n g
  dn : wr.rowIs B3 4 n (fun z => .bool (h z))
theorem LawW.alloc {w wr : World} {B B2 B3 n : Nat} {f : Nat → Nat} {g : Nat → Value} {h : Nat → Bool} (H : LawW w wr B B2 B3 n f g h) (o : Obj) : LawW w (wr.alloc o) B B2 B3 n f g h :=
  ⟨H.since.alloc H.since.size _, H.beh.alloc _, H.row.alloc _, H.dn.alloc _⟩
def rowV (n : Nat) (s : List Nat) (i : Nat) : Value := .int .i64 ((if n ≤ i + s.length then s.getD (i + s.length - n) 0 else 0 : Nat) : Int)
theorem lateC_bd {js : List Tri} (t : TasksOk js) {v : Int} (hv : v ≤ 60000000000) (i : Nat) : 0 ≤ wg js i * max 0 (v - du js i) ∧ wg js i * max 0 (v - du js i) ≤ 600000000000000 := by
  obtain ⟨_, ⟨h1, h2⟩, h3, _⟩ := task_bd t i
  have h4 : 0 ≤ max 0 (v - du js i) := by omega
  have h5 : max 0 (v - du js i) ≤ 60000000000 := by omega
  refine ⟨Int.mul_nonneg h1 h4, ?_⟩
  exact Int.le_trans (Int.mul_le_mul_of_nonneg_right h2 h4) (by omega)
set_option maxHeartbeats 8000000 in
set_option maxRecDepth 100000 in
theorem Lawler_ok {A M : Option Addr} {cap cap2 : Nat} {js : List Tri} {m : List (List Int)} {w : World} (h : TriAt w A js) (t : TasksOk js) (hm : MapAt w M m) (hml : m.length = js.length) (hsum : (m.map List.length).sum ≤ 60) :
    Calls Try.prog 13 #[.slice A js.length cap, .slice M m.length cap2] w (LawPost js m w) := by
  have hfew := t.few
  have hmk := run_make_row' (P := Try.prog) 23 3 (.int .i64 0) 8 Try.underlying23 info_int rfl .i64 .i64 js.length (by omega) (by omega)
  have hmkb := run_make_row' (P := Try.prog) 47 4 (.bool false) 1 Try.underlying47 info_bool rfl .i64 .i64 js.length (by omega) (by omega)
  have C1 := Lib.hid (Check_ok (cap := cap) h t)
  have HJ := Lib.hid h
  have HO := Lib.hid t
  have HM := Lib.hid hm
  have Hml := Lib.hid hml
  have Hsum := Lib.hid hsum
  have hb : ((m.length : Int) != (js.length : Int)) = false := by rw [bne_eq_false_iff_eq]; omega
  clear h t hm hml hsum
  go_enter Try.func13, Try.ntmps13
  go_wp2_with fail
  refine C1.out.mono ?_
  rintro e w1 ⟨hs1, rfl⟩
  have Hmkb := Lib.hid hmkb
  clear hmkb
  go_wp2
  clear hb hmk
  have hs3 := hs1.alloc hs1.size (Obj.cells (madeCells #[Value.int .i64 0] js.length) 3)
  have hr3 := World.rowIs_made w1 (Value.int .i64 0) js.length 3
  obtain ⟨B, hB⟩ : ∃ B, B = w1.heap.size := ⟨_, rfl⟩
  have hB1 : w.heap.size ≤ B := by rw [hB]; exact hs1.size
  rw [← hB] at hr3 ⊢
  clear hB hs1
  generalize w1.alloc (Obj.cells (madeCells #[Value.int .i64 0] js.length) 3) = w3 at *
  go_loopg [9, 41] js.length (fun gh nv iv wr => ∃ (k : Nat) (v : Int), k ≤ js.length ∧ gh = js.length - k ∧ iv = .int .i64 k ∧ nv = .int .i64 v ∧ Hid (v = sumI (lg js) (List.range k)) ∧ w.Since w.heap.size wr ∧
    wr.rowIs B 3 js.length (fun z => .int .i64 (left' (ahd m) [] z k : Nat)) ∧ Hid (∀ x, x < k → ∀ a ∈ ahd m x, 0 ≤ a ∧ a < (js.length : Int)))
  case atStart => exact ⟨0, 0, Nat.zero_le _, rfl, rfl, rfl, Lib.hid (by simp [sumI]), hs3, hr3.congr (fun i _ => by simp [left']), Lib.hid (fun x hx => absurd hx (by omega))⟩
  case round =>
    clear hs3 hr3
    obtain ⟨k, v, hk, rfl, rfl, rfl, hv, hs, hrow, hin⟩ := hrel
    by_cases hkl : k < js.length
    · have hkz : (k : Int) < (js.length : Int) := by omega
      obtain ⟨b, off, rfl, hb, hc⟩ := HJ.out k hkl
      obtain ⟨y, hy⟩ : ∃ y, js[k]? = some y := ⟨js[k], List.getElem?_eq_getElem hkl⟩
      obtain ⟨c0, c1, c2⟩ := hc k y hy
      rw [← hs.cell (show b < w.heap.size from hb)] at c0 c1 c2
      have hlg := (tri_at hy).1
      have hst : sumI (lg js) (List.range (k + 1)) = sumI (lg js) (List.range k) + y.1 := by rw [List.range_succ, sumI_append, sumI_cons, hlg]; simp [sumI]
      have hvv := hv.out
      have hsb := sum_bd HO.out (List.range (k + 1))
      have hsb0 := sum_bd HO.out (List.range k)
      rw [List.length_range] at hsb hsb0
      obtain ⟨y1, y2, y3⟩ := y
      simp only at c0 c1 c2 hst
      have hv1 : 0 ≤ v + y1 := by omega
      have hv2 : v + y1 ≤ 60000000000 := by omega
      have Hn : Hid (v + y1 = sumI (lg js) (List.range (k + 1))) := Lib.hid (by omega)
      obtain ⟨r, hr⟩ : ∃ r, m[k]? = some r := ⟨m[k]'(by have := Hml.out; omega), List.getElem?_eq_getElem _⟩
      obtain ⟨b2, off2, rfl, hb2, hc2⟩ := HM.out k (by have := Hml.out; omega)
      obtain ⟨A', c', hc3, hI⟩ := hc2 k r hr
      rw [← hs.cell (show b2 < w.heap.size from hb2)] at hc3
      have hkm : (k : Int) < (m.length : Int) := by have := Hml.out; omega
      have hrl : r.length ≤ 60 := by
        have h1 := Hsum.out
        have h2 : r.length ≤ (m.map List.length).sum := le_sum_mem (List.mem_map.2 ⟨r, List.mem_of_getElem? hr, rfl⟩)
        omega
      have hbz : b2 < wr.heap.size := by have := hs.size; omega
      have Hr := Lib.hid hr
      have HI := Lib.hid hI
      have Hbd : Hid (∀ z, left' (ahd m) [] z k ≤ 60) := Lib.hid (fun z => Nat.le_trans (left_few Hml.out hk [] z) (Nat.le_trans sum_le_of Hsum.out))
      have hrow' := Lib.hid hrow
      clear hc hc2 hy hst hvv hsb hsb0 hlg hr hI hrow
      go_wp2
      have hs4 := hs.alloc hs.size (Obj.cells #[Value.int .i64 y1, Value.int .i64 y2, Value.int .i64 y3] 41)
      have hr4 := hrow'.out.alloc (Obj.cells #[Value.int .i64 y1, Value.int .i64 y2, Value.int .i64 y3] 41)
      generalize wr.alloc (Obj.cells #[Value.int .i64 y1, Value.int .i64 y2, Value.int .i64 y3] 41) = w4 at *
      clear hrow' hs c0 c1 c2 hc3 hbz
      go_loopg [55] r.length (fun gh jv wq => ∃ (j : Nat) (f : Nat → Nat), j ≤ r.length ∧ gh = r.length - j ∧ jv = .int .i64 j ∧ w.Since w.heap.size wq ∧
        wq.rowIs B 3 js.length (fun z => .int .i64 (f z : Nat)) ∧ Hid (∀ z : Nat, f z = left' (ahd m) [] z k + (r.take j).count (z : Int)) ∧ Hid (∀ a ∈ r.take j, 0 ≤ a ∧ a < (js.length : Int)))
      case atStart => exact ⟨0, fun z => left' (ahd m) [] z k, Nat.zero_le _, rfl, rfl, hs4, hr4, Lib.hid (fun z => by simp), Lib.hid (by simp)⟩
      case round =>
        clear hs4 hr4
        obtain ⟨j, f, hj, rfl, rfl, hs, hrow, hf, hjn⟩ := hrel
        by_cases hjl : j < r.length
        · have hjz : (j : Int) < (r.length : Int) := by omega
          obtain ⟨b3, off3, rfl, hb3, hc3⟩ := HI.out j hjl
          obtain ⟨x, hx⟩ : ∃ x, r[j]? = some x := ⟨r[j], List.getElem?_eq_getElem hjl⟩
          have g0 := hc3 j x hx
          rw [← hs.cell (show b3 < w.heap.size from hb3)] at g0
          have Hx := Lib.hid hx
          clear hc3 hx
          by_cases x0 : x < 0
          · go_wp2
            go_ret3
            exact LawPost.bad 2 hs
          by_cases x1 : (js.length : Int) ≤ x
          · have x0' : 0 ≤ x := by omega
            go_wp2
            go_ret3
            exact LawPost.bad 2 hs
          obtain ⟨x', rfl⟩ := Int.eq_ofNat_of_zero_le (show 0 ≤ x by omega)
          have hxn : x' < js.length := by omega
          have hxz : (x' : Int) < (js.length : Int) := by omega
          have g1 := hrow.cell hxn
          have g2 := hrow.frozen x'
          have hfb : f x' ≤ 120 := by
            have h1 := hf.out x'
            have h2 := Hbd.out x'
            have h3 := List.count_le_length (a := (x' : Int)) (l := r.take j)
            rw [List.length_take] at h3
            omega
          have hfbz : ((f x' : Nat) : Int) ≤ 120 := by omega
          have Hrow := Lib.hid hrow
          clear x0 x1 hrow
          go_wp2
          go_roundg (r.length - (j + 1))
          case measure => go_light; omega
          case rel =>
            go_light
            refine ⟨j + 1, fun z => if z = x' then f z + 1 else f z, by omega, rfl, by go_num, hs.setCell (a := ⟨B, x', none⟩) hB1 _, (Hrow.out.set x' _).congr (fun i hi => ?_), Lib.hid (fun z => ?_), Lib.hid ?_⟩
            · by_cases e : i = x'
              · subst e; simp
              · simp [e]
            · rw [take_snoc' Hx.out, List.count_append]
              have := hf.out z
              by_cases e : z = x'
              · subst e; simp; omega
              · have e2 : ((x' : Int) == (z : Int)) = false := by rw [beq_eq_false_iff_ne]; omega
                simp [e, List.count_cons, e2]; omega
            · rw [take_snoc' Hx.out, List.forall_mem_append]
              exact ⟨hjn.out, by simpa using hxz⟩
        · obtain rfl : r.length = j := by omega
          have hf' := hf.out
          have hjn' := hjn.out
          rw [List.take_of_length_le (Nat.le_refl _)] at hf' hjn'
          have Hf := Lib.hid hf'
          have Hj := Lib.hid hjn'
          have Hrow := Lib.hid hrow
          clear hf hjn hf' hjn' hrow
          go_wp2
          go_roundg (js.length - (k + 1))
          case measure => go_light; omega
          case rel =>
            go_light
            refine ⟨k + 1, _, by omega, rfl, by go_num, rfl, Hn, hs, Hrow.out.congr (fun i hi => ?_), Lib.hid (fun x hx => ?_)⟩
            · have h1 : left' (ahd m) [] i (k + 1) = left' (ahd m) [] i k + (if k ∈ ([] : List Nat) then 0 else (ahd m k).count (i : Int)) := rfl
              rw [Hf.out, h1, if_neg (by simp), ahd_at Hr.out]
            · by_cases e : x = k
              · subst e; rw [ahd_at Hr.out]; exact Hj.out
              · exact hin.out x (by omega)
    · obtain rfl : js.length = k := by omega
      have hrow' := Lib.hid hrow
      have Hmkb' := Hmkb.out
      have hmk := run_make_row' (P := Try.prog) 23 3 (.int .i64 0) 8 Try.underlying23 info_int rfl .i64 .i64 js.length (by omega) (by omega)
      clear hrow
      go_wp2
      have hW : LawW w ((wr.alloc (Obj.cells (madeCells #[Value.int .i64 0] js.length) 3)).alloc (Obj.cells (madeCells #[Value.bool false] js.length) 4)) B wr.heap.size (wr.heap.size + 1) js.length (fun z => left' (ahd m) [] z js.length) (rowV js.length []) (fun z => decide (z ∈ ([] : List Nat))) :=
        ⟨(hs.alloc hs.size _).alloc (by have := hs.size; simp; omega) _, (hrow'.out.alloc _).alloc _, ((World.rowIs_made wr (Value.int .i64 0) js.length 3).alloc _).congr (fun i hi => by unfold rowV; simp), by
          have := World.rowIs_made (wr.alloc (Obj.cells (madeCells #[Value.int .i64 0] js.length) 3)) (Value.bool false) js.length 4
          rw [show (wr.alloc (Obj.cells (madeCells #[Value.int .i64 0] js.length) 3)).heap.size = wr.heap.size + 1 by simp] at this
          exact this.congr (fun i hi => by simp)⟩
      have HW := Lib.hid hW
      have hBlt : B < wr.heap.size := hrow'.out.lt
      clear hW hmk Hmkb'
      generalize (wr.alloc (Obj.cells (madeCells #[Value.int .i64 0] js.length) 3)).alloc (Obj.cells (madeCells #[Value.bool false] js.length) 4) = w5 at *
      obtain ⟨B2, hB2⟩ : ∃ B2, B2 = wr.heap.size := ⟨_, rfl⟩
      obtain ⟨B3, hB3⟩ : ∃ B3, B3 = wr.heap.size + 1 := ⟨_, rfl⟩
      rw [← hB3, ← hB2] at HW ⊢
      have hB12 : B < B2 := by omega
      have hB23 : B2 < B3 := by omega
      have hv' := hv.out
      clear hB2 hB3 hBlt hrow' hs hv
      go_loopg [9, 16, 17] js.length (fun gh nv cv pv wr => ∃ (s : List Nat) (v c p : Int) (f : Nat → Nat), s.length ≤ js.length ∧ gh = js.length - s.length ∧ nv = .int .i64 v ∧ cv = .int .i64 c ∧ pv = .int .i64 p ∧ -1 ≤ p ∧ p < (js.length : Int) ∧ Hid (p = js.length - s.length - 1) ∧
        Hid (v = allL js - sumI (lg js) s) ∧ Hid (LawSt js.length (lg js) (wg js) (du js) (ahd m) (allL js) s c) ∧ Hid (∀ z, f z = left' (ahd m) s z js.length) ∧ Hid (LawW w wr B B2 B3 js.length f (rowV js.length s) (fun z => decide (z ∈ s))))
      case atStart =>
        exact ⟨[], v, 0, (js.length : Int) - 1, _, Nat.zero_le _, rfl, rfl, rfl, rfl, by omega, by omega, Lib.hid (by simp), Lib.hid (by rw [hv']; simp [allL, sumI]), Lib.hid law_nil, Lib.hid (fun z => rfl), HW⟩
      case round =>
        clear HW hv'
        obtain ⟨s, v2, c, p, f, hsl, rfl, rfl, rfl, rfl, hp1, hp2, hp, hv, hL, hf, hW⟩ := hrel
        by_cases hp0 : p < 0
        · have hpp := hp.out
          have hlen : s.length = js.length := by omega
          have Hlen := Lib.hid hlen
          clear hpp hlen
          go_wp2
          go_ret3
          refine ⟨hW.out.since, .inr ⟨HO.out, Hml.out, hin.out, s, c, B2, rfl, Hlen.out, hL.out, fun k hk => ⟨B2, 0, rfl, hW.out.row.lt, fun k x hx => ?_⟩⟩⟩
          have hk' := (List.getElem?_eq_some_iff.1 hx).1
          rw [ints_len, Hlen.out] at hk'
          rw [Nat.zero_add, hW.out.row.cell hk']
          have hl := Hlen.out
          unfold ints at hx
          rw [List.getElem?_map] at hx
          unfold rowV
          rw [if_pos (by omega), show k + s.length - js.length = k by omega, List.getD_eq_getElem?_getD]
          cases h1 : s[k]? with
          | none => rw [h1] at hx; cases hx
          | some y => rw [h1] at hx; injection hx with hx; rw [← hx]; rfl
        · obtain ⟨p', rfl⟩ := Int.eq_ofNat_of_zero_le (show 0 ≤ p by omega)
          have hpz : (0 : Int) ≤ (p' : Int) := by omega
          have hpn : p' < js.length := by omega
          have hvb : v2 ≤ 60000000000 ∧ 0 ≤ v2 := by
            have h1 := sum_bd HO.out (List.range js.length)
            have h2 := sum_bd HO.out s
            have h3 := hv.out
            have h4 := sumI_sub (p := lg js) (fun i => (task_bd HO.out i).1.1) s (List.range js.length) hL.out.nodup (fun x hx => List.mem_range.2 (hL.out.lt x hx))
            unfold allL at h3
            rw [List.length_range] at h1
            omega
          obtain ⟨hvb1, hvb2⟩ := hvb
          go_wp2
          go_loopg [18, 19, 91] js.length (fun gh bv lv iv wq => ∃ (i : Nat) (b' l' : Int), i ≤ js.length ∧ gh = js.length - i ∧ bv = .int .i64 b' ∧ lv = .int .i64 l' ∧ iv = .int .i64 i ∧ -1 ≤ b' ∧ Hid (BestL js.length (lg js) (wg js) (du js) (ahd m) (allL js) s i b' l') ∧ Hid (LawW w wq B B2 B3 js.length f (rowV js.length s) (fun z => decide (z ∈ s))))
          case atStart => exact ⟨0, -1, 0, Nat.zero_le _, rfl, rfl, rfl, rfl, by omega, Lib.hid BestL.start, hW⟩
          case round =>
            clear hW
            obtain ⟨i, b', l', hi, rfl, rfl, rfl, rfl, hb1, hbest, hW⟩ := hrel
            by_cases hil : i < js.length
            · have hiz : (i : Int) < (js.length : Int) := by omega
              obtain ⟨b, off, rfl, hb, hc⟩ := HJ.out i hil
              obtain ⟨y, hy⟩ : ∃ y, js[i]? = some y := ⟨js[i], List.getElem?_eq_getElem hil⟩
              obtain ⟨c0, c1, c2⟩ := hc i y hy
              have hs := hW.out.since
              rw [← hs.cell (show b < w.heap.size from hb)] at c0 c1 c2
              obtain ⟨_, hwg, hdu⟩ := tri_at hy
              have hcb := lateC_bd HO.out hvb1 i
              have hbd := task_bd HO.out i
              have hlc : lateC (lg js) (wg js) (du js) (allL js) s i = wg js i * max 0 (v2 - du js i) := by unfold lateC; rw [hv.out]
              rw [hwg, hdu] at hcb hlc hbd
              obtain ⟨y1, y2, y3⟩ := y
              simp only at c0 c1 c2 hcb hlc hbd
              obtain ⟨_, ⟨d1, d2⟩, d3, d4⟩ := hbd
              obtain ⟨n1, n2⟩ := hcb
              have n3 : -1000000000 ≤ v2 - y3 := by omega
              have n4 : v2 - y3 ≤ 60000000000 := by omega
              have g1 := hW.out.dn.cell hil
              have g2 := hW.out.beh.cell hil
              have hB1' : B < wr.heap.size := hW.out.beh.lt
              have hB3' : B3 < wr.heap.size := hW.out.dn.lt
              have Hlc := Lib.hid hlc
              have hW2 := Lib.hid (hW.out.alloc (Obj.cells #[Value.int .i64 y1, Value.int .i64 y2, Value.int .i64 y3] 41))
              clear hc hy hwg hdu hlc hs
              by_cases his : i ∈ s
              · have e1 : decide (i ∈ s) = true := decide_eq_true his
                rw [e1] at g1
                clear e1
                go_wp2
                all_goals
                  go_roundg (js.length - (i + 1))
                  case measure => go_light; omega
                  case rel =>
                    go_light
                    exact ⟨i + 1, b', l', by omega, rfl, rfl, rfl, by go_num, hb1, Lib.hid (hbest.out.skip (fun h => absurd his h)), hW2⟩
              have e1 : decide (i ∈ s) = false := decide_eq_false his
              rw [e1] at g1
              have His := Lib.hid his
              clear e1 his
              obtain ⟨fi, hfi⟩ : ∃ z, z = f i := ⟨_, rfl⟩
              rw [← hfi] at g2
              have hop : fi = 0 ↔ open' js.length (ahd m) s i := by rw [hfi, hf.out]; exact left_zero _
              have Hop := Lib.hid hop
              clear hfi hop
              by_cases hf0 : fi = 0
              case neg =>
                have hbz : (((fi : Nat) : Int) == 0) = false := by rw [beq_eq_false_iff_ne]; omega
                have Hf0 := Lib.hid hf0
                clear hf0
                go_wp2
                all_goals
                  go_roundg (js.length - (i + 1))
                  case measure => go_light; omega
                  case rel =>
                    go_light
                    exact ⟨i + 1, b', l', by omega, rfl, rfl, rfl, by go_num, hb1, Lib.hid (hbest.out.skip (fun _ h => Hf0.out (Hop.out.2 h))), hW2⟩
              subst hf0
              have Ho : Hid (open' js.length (ahd m) s i) := Lib.hid (Hop.out.1 rfl)
              clear Hop
              by_cases hlt : y3 < v2
              · have hmx : max 0 (v2 - y3) = v2 - y3 := by omega
                rw [hmx] at n1 n2
                have Hlc2 : Hid (lateC (lg js) (wg js) (du js) (allL js) s i = y2 * (v2 - y3)) := Lib.hid (by rw [Hlc.out, hmx])
                clear hmx Hlc
                by_cases hb0 : b' < 0
                · go_wp2
                  go_roundg (js.length - (i + 1))
                  case measure => go_light; omega
                  case rel =>
                    go_light
                    exact ⟨i + 1, i, y2 * (v2 - y3), by omega, rfl, rfl, rfl, by go_num, by omega, Lib.hid (by have := hbest.out.take hil His.out Ho.out (.inl hb0); rw [Hlc2.out] at this; exact this), hW2⟩
                have hb0' : 0 ≤ b' := by omega
                clear hb0
                by_cases hle : y2 * (v2 - y3) ≤ l'
                · go_wp2
                  go_roundg (js.length - (i + 1))
                  case measure => go_light; omega
                  case rel =>
                    go_light
                    exact ⟨i + 1, i, y2 * (v2 - y3), by omega, rfl, rfl, rfl, by go_num, by omega, Lib.hid (by have := hbest.out.take hil His.out Ho.out (.inr (by rw [Hlc2.out]; exact hle)); rw [Hlc2.out] at this; exact this), hW2⟩
                · have hle' : l' < y2 * (v2 - y3) := by omega
                  clear hle
                  go_wp2
                  go_roundg (js.length - (i + 1))
                  case measure => go_light; omega
                  case rel =>
                    go_light
                    exact ⟨i + 1, b', l', by omega, rfl, rfl, rfl, by go_num, hb1, Lib.hid (hbest.out.keep hb0' (by rw [Hlc2.out]; omega)), hW2⟩
              have hlt' : v2 ≤ y3 := by omega
              clear hlt
              · have hmx : max 0 (v2 - y3) = 0 := by omega
                rw [hmx, Int.mul_zero] at n1 n2
                have Hlc2 : Hid (lateC (lg js) (wg js) (du js) (allL js) s i = 0) := Lib.hid (by rw [Hlc.out, hmx, Int.mul_zero])
                clear hmx Hlc
                by_cases hb0 : b' < 0
                · go_wp2
                  go_roundg (js.length - (i + 1))
                  case measure => go_light; omega
                  case rel =>
                    go_light
                    exact ⟨i + 1, i, 0, by omega, rfl, rfl, by first | rfl | exact congrArg (Value.int .i64) (by unfold wrap64; omega), by go_num, by omega, Lib.hid (by have := hbest.out.take hil His.out Ho.out (.inl hb0); rw [Hlc2.out] at this; exact this), hW2⟩
                have hb0' : 0 ≤ b' := by omega
                clear hb0
                by_cases hle : 0 ≤ l'
                · go_wp2
                  go_roundg (js.length - (i + 1))
                  case measure => go_light; omega
                  case rel =>
                    go_light
                    exact ⟨i + 1, i, 0, by omega, rfl, rfl, by first | rfl | exact congrArg (Value.int .i64) (by unfold wrap64; omega), by go_num, by omega, Lib.hid (by have := hbest.out.take hil His.out Ho.out (.inr (by rw [Hlc2.out]; exact hle)); rw [Hlc2.out] at this; exact this), hW2⟩
                · have hle' : l' < 0 := by omega
                  clear hle
                  go_wp2
                  go_roundg (js.length - (i + 1))
                  case measure => go_light; omega
                  case rel =>
                    go_light
                    exact ⟨i + 1, b', l', by omega, rfl, rfl, rfl, by go_num, hb1, Lib.hid (hbest.out.keep hb0' (by rw [Hlc2.out]; omega)), hW2⟩
            · obtain rfl : js.length = i := by omega
              by_cases hb0 : b' < 0
              · go_wp2
                go_ret3
                exact LawPost.bad 12 hW.out.since
              obtain ⟨x, rfl⟩ := Int.eq_ofNat_of_zero_le (show 0 ≤ b' by omega)
              obtain ⟨x', hx', hxn, hxs, hxo, hxl⟩ := hbest.out.some (by omega)
              obtain rfl : x = x' := by omega
              have hbl := hbest.out.least (by omega)
              have Hbl := Lib.hid hbl
              have Hxs := Lib.hid hxs
              have Hxo := Lib.hid hxo
              have Hxl := Lib.hid hxl
              have hxz : (x : Int) < (js.length : Int) := by omega
              have hx0 : 0 ≤ (x : Int) := by omega
              obtain ⟨b, off, rfl, hb, hc⟩ := HJ.out x hxn
              obtain ⟨y, hy⟩ : ∃ y, js[x]? = some y := ⟨js[x], List.getElem?_eq_getElem hxn⟩
              obtain ⟨c0, _, _⟩ := hc x y hy
              have hs := hW.out.since
              rw [← hs.cell (show b < w.heap.size from hb)] at c0
              have hlg := (tri_at hy).1
              have hbd := (task_bd HO.out x).1
              rw [hlg] at hbd
              obtain ⟨y1, y2, y3⟩ := y
              simp only at c0 hbd hlg
              obtain ⟨q1, q2⟩ := hbd
              obtain ⟨r, hr⟩ : ∃ r, m[x]? = some r := ⟨m[x]'(by have := Hml.out; omega), List.getElem?_eq_getElem _⟩
              obtain ⟨b2, off2, rfl, hb2, hc2⟩ := HM.out x (by have := Hml.out; omega)
              obtain ⟨A', c', hc3, hI⟩ := hc2 x r hr
              rw [← hs.cell (show b2 < w.heap.size from hb2)] at hc3
              have hxm : (x : Int) < (m.length : Int) := by have := Hml.out; omega
              have hrl : r.length ≤ 60 := by
                have h1 := Hsum.out
                have h2 : r.length ≤ (m.map List.length).sum := le_sum_mem (List.mem_map.2 ⟨r, List.mem_of_getElem? hr, rfl⟩)
                omega
              have g1 := hW.out.row.cell hpn
              have g2 := hW.out.row.frozen p'
              have g3 := hW.out.dn.cell hxn
              have g4 := hW.out.dn.frozen x
              have z1 : b ≠ B2 := by omega
              have z2 : b ≠ B3 := by omega
              have z3 : b2 ≠ B2 := by omega
              have z4 : b2 ≠ B3 := by omega
              have z5 : B2 ≠ B3 := by omega
              have z6 : B3 ≠ B2 := by omega
              obtain ⟨old, hold⟩ : ∃ z, z = rowV js.length s p' := ⟨_, rfl⟩
              rw [← hold] at g1
              have hone : old.oneCell' = true := by rw [hold]; rfl
              have HW6 : ∀ z : Bool, LawW w ((wr.setCell ⟨B2, p', none⟩ (.int .i64 (x : Nat))).setCell ⟨B3, x, none⟩ (.bool true)) B B2 B3 js.length f (rowV js.length (x :: s)) (fun z => decide (z ∈ x :: s)) := fun _ =>
                ⟨(hs.setCell (a := ⟨B2, p', none⟩) (by show w.heap.size ≤ B2; omega) _).setCell (a := ⟨B3, x, none⟩) (by show w.heap.size ≤ B3; omega) _,
                  (hW.out.beh.setOther (a := ⟨B2, p', none⟩) (by show B ≠ B2; omega) _).setOther (a := ⟨B3, x, none⟩) (by show B ≠ B3; omega) _,
                  ((hW.out.row.set p' _).congr (fun i hi => by
                    have h1 := hp.out
                    by_cases e : i = p'
                    · subst e
                      rw [if_pos rfl]
                      unfold rowV
                      rw [List.length_cons, if_pos (by omega), show i + (s.length + 1) - js.length = 0 by omega]
                      rfl
                    · rw [if_neg e]
                      unfold rowV
                      rw [List.length_cons]
                      by_cases e2 : js.length ≤ i + s.length
                      · rw [if_pos e2, if_pos (by omega), show i + (s.length + 1) - js.length = (i + s.length - js.length) + 1 by omega]
                        rfl
                      · rw [if_neg e2, if_neg (by omega)])).setOther (a := ⟨B3, x, none⟩) (by show B2 ≠ B3; omega) _,
                  ((hW.out.dn.setOther (a := ⟨B2, p', none⟩) (by show B3 ≠ B2; omega) _).set x _).congr (fun i hi => by
                    by_cases e : i = x
                    · subst e; simp
                    · simp [e])⟩
              have HW7 := Lib.hid (HW6 true)
              have Hlg := Lib.hid hlg
              have Hr := Lib.hid hr
              have HI := Lib.hid hI
              clear hc hc2 hy hlg hr hI hold HW6 hbl hxs hxo hxl hx' hs
              by_cases hmx : l' ≤ c
              all_goals
                go_wp2
                generalize (wr.setCell ⟨B2, p', none⟩ (.int .i64 (x : Nat))).setCell ⟨B3, x, none⟩ (.bool true) = w7 at *
                clear c0 hc3 g1 g2 g3 g4 hone z1 z2 z3 z4 z5 z6
                go_loopg [153] r.length (fun gh jv wq => ∃ (j : Nat) (f5 : Nat → Nat), j ≤ r.length ∧ gh = r.length - j ∧ jv = .int .i64 j ∧ Hid (∀ z : Nat, f5 z + (r.take j).count (z : Int) = f z) ∧ Hid (LawW w wq B B2 B3 js.length f5 (rowV js.length (x :: s)) (fun z => decide (z ∈ x :: s))))
                case atStart => exact ⟨0, f, Nat.zero_le _, rfl, rfl, Lib.hid (fun z => by simp), HW7⟩
                case round =>
                  clear HW7
                  obtain ⟨j, f5, hj, rfl, rfl, hf5, hW5⟩ := hrel
                  by_cases hjl : j < r.length
                  · have hjz : (j : Int) < (r.length : Int) := by omega
                    obtain ⟨b3, off3, rfl, hb3, hc3⟩ := HI.out j hjl
                    obtain ⟨k, hk⟩ : ∃ k, r[j]? = some k := ⟨r[j], List.getElem?_eq_getElem hjl⟩
                    have g0 := hc3 j k hk
                    have hs := hW5.out.since
                    rw [← hs.cell (show b3 < w.heap.size from hb3)] at g0
                    obtain ⟨k0, k1⟩ := hin.out x hxn k (by rw [ahd_at Hr.out]; exact List.mem_of_getElem? hk)
                    obtain ⟨k', rfl⟩ := Int.eq_ofNat_of_zero_le k0
                    have hkn : k' < js.length := by omega
                    have h5 : 0 < f5 k' := by
                      have h1 := hf5.out k'
                      have h2 := hf.out k'
                      have h3 := left_step (A := ahd m) (z := k') Hxs.out js.length
                      rw [if_pos hxn, ahd_at Hr.out] at h3
                      have h4 : r.count (k' : Int) = (r.take j).count (k' : Int) + (r.drop j).count (k' : Int) := by
                        rw [← List.count_append, List.take_append_drop]
                      have h5 : 0 < (r.drop j).count (k' : Int) := List.count_pos_iff.2 (by
                        rw [List.drop_eq_getElem_cons hjl]
                        rw [List.getElem?_eq_getElem hjl] at hk
                        injection hk with hk
                        rw [hk]; exact List.mem_cons_self ..)
                      omega
                    have h5b : f5 k' ≤ 60 := by
                      have h1 := hf5.out k'
                      have h2 := hf.out k'
                      have h3 := Nat.le_trans (left_few Hml.out (Nat.le_refl _) s k') (Nat.le_trans sum_le_of Hsum.out)
                      omega
                    have h5z : (0 : Int) < ((f5 k' : Nat) : Int) := by omega
                    have h5y : ((f5 k' : Nat) : Int) ≤ 60 := by omega
                    have g1 := hW5.out.beh.cell hkn
                    have g2 := hW5.out.beh.frozen k'
                    have hkz : (k' : Int) < (js.length : Int) := by omega
                    have Hk := Lib.hid hk
                    have hW8 : LawW w (wr.setCell ⟨B, k', none⟩ (.int .i64 ((f5 k' : Nat) - 1))) B B2 B3 js.length (fun z => if z = k' then f5 z - 1 else f5 z) (rowV js.length (x :: s)) (fun z => decide (z ∈ x :: s)) :=
                      ⟨hs.setCell (a := ⟨B, k', none⟩) hB1 _, (hW5.out.beh.set k' _).congr (fun i hi => by
                        by_cases e : i = k'
                        · subst e
                          rw [if_pos rfl, if_pos rfl]
                          congr 1; omega
                        · rw [if_neg e, if_neg e]), hW5.out.row.setOther (a := ⟨B, k', none⟩) (by show B2 ≠ B; omega) _, hW5.out.dn.setOther (a := ⟨B, k', none⟩) (by show B3 ≠ B; omega) _⟩
                    have HW8 := Lib.hid hW8
                    clear hc3 hk hs hW8
                    go_wp2
                    go_roundg (r.length - (j + 1))
                    case measure => go_light; omega
                    case rel =>
                      go_light
                      refine ⟨j + 1, _, by omega, rfl, by go_num, Lib.hid (fun z => ?_), HW8⟩
                      have h1 := hf5.out z
                      rw [take_snoc' Hk.out, List.count_append]
                      by_cases e : z = k'
                      · subst e
                        rw [if_pos rfl]
                        simp
                        omega
                      · have e2 : ((k' : Int) == (z : Int)) = false := by rw [beq_eq_false_iff_ne]; omega
                        rw [if_neg e]
                        simp [List.count_cons, e2]
                        omega
                  · obtain rfl : r.length = j := by omega
                    have hL2 := law_step (fun i => (task_bd HO.out i).1.1) (fun i => (task_bd HO.out i).2.1.1) hL.out hxn Hxs.out Hxo.out (fun z hz hzs hzo => by rw [← Hxl.out]; exact Hbl.out z hz hzs hzo)
                    rw [← Hxl.out] at hL2
                    have HL2 := Lib.hid hL2
                    have hsl2 : s.length + 1 ≤ js.length := by have := hp.out; omega
                    clear hL2
                    go_wp2
                    go_roundg (js.length - (s.length + 1))
                    case measure => go_light; omega
                    case rel =>
                      go_light
                      refine ⟨x :: s, v2 - y1, max c l', (p' : Int) - 1, f5, hsl2, rfl, rfl, (by first | rfl | exact congrArg (Value.int .i64) (by omega)), rfl, by omega, by omega, Lib.hid (by have := hp.out; rw [List.length_cons]; omega), Lib.hid (by rw [sumI_cons, Hlg.out, hv.out]; omega), HL2, Lib.hid (fun z => ?_), hW5⟩
                      have h1 := hf5.out z
                      have h2 := hf.out z
                      have h3 := left_step (A := ahd m) (z := z) Hxs.out js.length
                      rw [if_pos hxn, ahd_at Hr.out] at h3
                      rw [List.take_of_length_le (Nat.le_refl _)] at h1
                      omega
end Go.Proofs.Ytimbkogdlmkdgaa
