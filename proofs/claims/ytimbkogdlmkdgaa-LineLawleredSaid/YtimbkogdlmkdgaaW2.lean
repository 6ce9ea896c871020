/- line.Ends. -/
import Derived.Test.YtimbkogdlmkdgaaW1
namespace Go.Proofs.Ytimbkogdlmkdgaa
open Go.RowKit PermM StabM LineM

def EndsPost (js : List Tri) (l : List Nat) (w : World) (e : Ending) (w' : World) : Prop :=
  w.Since w.heap.size w' ∧ ∃ g, e = .returned (.tuple #[.slice (some ⟨g, 0, none⟩) js.length js.length, .nilIface]) ∧ w.heap.size ≤ g ∧ w'.rowIs g 3 js.length (fun i => .int .i64 (endIn (lg js) 0 l i))
theorem sum_take {p : Nat → Int} {l : List Nat} {k x : Nat} (h : l[k]? = some x) : sumI p (l.take (k + 1)) = sumI p (l.take k) + p x := by
  rw [take_snoc' h, sumI_append, sumI_cons]; simp [sumI]
theorem sum_bd {js : List Tri} (h : TasksOk js) : ∀ l : List Nat, 0 ≤ sumI (lg js) l ∧ sumI (lg js) l ≤ 1000000000 * (l.length : Int)
  | [] => by simp [sumI]
  | x :: l => by
    have h1 := sum_bd h l
    have h2 := (task_bd h x).1
    rw [sumI_cons, List.length_cons]; omega
set_option maxHeartbeats 4000000 in
theorem Ends_ok {A : Option Addr} {cap : Nat} {js : List Tri} {A2 : Option Addr} {cap2 : Nat} {l : List Nat} {w : World} (h : TriAt w A js) (t : TasksOk js) (h2 : IntsAt w A2 (ints l)) (hp : IsPerm js.length l) :
    Calls Try.prog 20 #[.slice A js.length cap, .slice A2 js.length cap2] w (EndsPost js l w) := by
  have hfew := t.few
  have hmk := run_make_row' (P := Try.prog) 23 3 (.int .i64 0) 8 Try.underlying23 info_int rfl .i64 .i64 js.length (by omega) (by omega)
  have C1 := Lib.hid (Check_ok (cap := cap) h t)
  have HJ := Lib.hid h
  have HO := Lib.hid t
  have HI := Lib.hid h2
  have HP := Lib.hid hp
  have hll : l.length ≤ 60 := by rw [hp.len]; exact hfew
  have HL := Lib.hid hp.len
  clear h t h2 hp
  go_enter Try.func20, Try.ntmps20
  go_wp2_with fail
  refine C1.out.mono ?_
  rintro e w1 ⟨hs1, rfl⟩
  have hI1 : IntsAt w1 A2 (ints l) := HI.out.since (Nat.le_refl _) hs1
  have C2 := Lib.hid (Order_ok (cap := cap2) (n := js.length) (by omega) hI1 HP.out)
  clear hI1
  go_wp2_with fail
  refine C2.out.mono ?_
  rintro e w2 ⟨rfl, hs2⟩
  have hs := since_join hs1 hs2
  clear hs1 hs2
  go_wp2
  clear hmk
  have hs3 := hs.alloc hs.size (Obj.cells (madeCells #[Value.int .i64 0] js.length) 3)
  have hr3 := World.rowIs_made w2 (Value.int .i64 0) js.length 3
  obtain ⟨B, hB⟩ : ∃ B, B = w2.heap.size := ⟨_, rfl⟩
  have hB1 : w.heap.size ≤ B := by rw [hB]; exact hs.size
  rw [← hB] at hr3 ⊢
  clear hB hs
  generalize w2.alloc (Obj.cells (madeCells #[Value.int .i64 0] js.length) 3) = w3 at *
  go_loopg [9, 29] js.length (fun g nv iv wr => ∃ (k : Nat) (v : Int), k ≤ js.length ∧ g = js.length - k ∧ iv = .int .i64 k ∧ nv = .int .i64 v ∧ Hid (v = sumI (lg js) (l.take k)) ∧ w.Since w.heap.size wr ∧ wr.rowIs B 3 js.length (fun i => .int .i64 (if i ∈ l.take k then endIn (lg js) 0 l i else 0)))
  case atStart => exact ⟨0, 0, Nat.zero_le _, rfl, rfl, rfl, Lib.hid (by simp [sumI]), hs3, hr3.congr (fun i _ => by simp)⟩
  case round =>
    clear hs3 hr3
    obtain ⟨k, v, hk, rfl, rfl, rfl, hv, hs, hrow⟩ := hrel
    by_cases hkl : k < js.length
    · have hkz : (k : Int) < (js.length : Int) := by omega
      obtain ⟨x, hx⟩ : ∃ x, l[k]? = some x := ⟨l[k]'(by rw [HL.out]; exact hkl), List.getElem?_eq_getElem _⟩
      have hxn : x < js.length := HP.out.lt x (List.mem_of_getElem? hx)
      obtain ⟨b2, off2, rfl, hb2, hc2⟩ := HI.out k (by rw [ints_len, HL.out]; exact hkl)
      have c5 := hc2 k (x : Int) (by unfold ints; rw [List.getElem?_map, hx]; rfl)
      rw [← hs.cell (show b2 < w.heap.size from hb2)] at c5
      obtain ⟨b, off, rfl, hb, hc⟩ := HJ.out x hxn
      obtain ⟨y, hy⟩ : ∃ y, js[x]? = some y := ⟨js[x], List.getElem?_eq_getElem hxn⟩
      obtain ⟨c0, _, _⟩ := hc x y hy
      rw [← hs.cell (show b < w.heap.size from hb)] at c0
      have hlg := (tri_at hy).1
      have hst := sum_take (p := lg js) hx
      have hvv := hv.out
      have hsb := sum_bd HO.out (l.take (k + 1))
      have hsb0 := sum_bd HO.out (l.take k)
      have hlen : (l.take (k + 1)).length ≤ 60 := by rw [List.length_take]; omega
      rw [hlg] at hst
      generalize y.1 = y1 at *
      have hv1 : 0 ≤ v + y1 := by omega
      have hv2 : v + y1 ≤ 60000000000 := by omega
      have Hn : Hid (v + y1 = sumI (lg js) (l.take (k + 1))) := Lib.hid (by omega)
      have hxz : (x : Int) < (js.length : Int) := by omega
      have g1 := hrow.cell hxn
      have g2 := hrow.frozen x
      have Hx := Lib.hid hx
      have Hlg := Lib.hid hlg
      have Hv := Lib.hid hvv
      have Hrow := Lib.hid hrow
      obtain ⟨old, hold⟩ : ∃ z, z = (if x ∈ l.take k then endIn (lg js) 0 l x else 0) := ⟨_, rfl⟩
      rw [← hold] at g1
      clear hx hc hc2 hy hst hvv hsb hsb0 hlen hlg hold hrow
      go_wp2
      go_roundg (js.length - (k + 1))
      case measure => go_light; omega
      case rel =>
        go_light
        refine ⟨k + 1, _, by omega, rfl, by go_num, rfl, Hn, hs.setCell (a := ⟨B, x, none⟩) hB1 _, (Hrow.out.set x _).congr (fun i hi => ?_)⟩
        have hmem : i ∈ l.take (k + 1) ↔ i ∈ l.take k ∨ i = x := by rw [take_snoc' Hx.out]; simp
        by_cases e : i = x
        · subst e
          rw [if_pos rfl, if_pos (hmem.2 (.inr rfl))]
          have hsp : l = l.take k ++ i :: l.drop (k + 1) := by
            conv => lhs; rw [← List.take_append_drop (k + 1) l, take_snoc' Hx.out]
            simp
          have hni : i ∉ l.take k := fun hm => by
            have hn := HP.out.nodup
            rw [hsp] at hn
            exact (List.nodup_append.1 hn).2.2 i hm i (List.mem_cons_self ..) rfl
          have := endIn_split (p := lg js) (i := i) (l.take k) (l.drop (k + 1)) 0 hni
          rw [← hsp] at this
          rw [this, Hv.out, Hlg.out]
          congr 1; omega
        · rw [if_neg e]
          by_cases hm : i ∈ l.take k
          · rw [if_pos hm, if_pos (hmem.2 (.inl hm))]
          · rw [if_neg hm, if_neg (fun h => by rcases hmem.1 h with h | h; exact hm h; exact e h)]
    · obtain rfl : js.length = k := by omega
      go_wp2
      go_ret2
      refine ⟨hs, B, rfl, hB1, hrow.congr (fun i hi => ?_)⟩
      rw [List.take_of_length_le (by rw [HL.out]; exact Nat.le_refl _), if_pos (HP.out.all i hi)]
end Go.Proofs.Ytimbkogdlmkdgaa
