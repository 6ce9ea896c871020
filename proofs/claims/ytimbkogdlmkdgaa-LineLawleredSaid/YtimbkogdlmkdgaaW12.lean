/- line: Lawler where it answers an error; worst. -/
import Derived.Test.YtimbkogdlmkdgaaW11
namespace Go.Proofs.Ytimbkogdlmkdgaa
open Go.RowKit PermM StabM LineM

set_option maxRecDepth 100000 in
theorem Lawler_bad {A M : Option Addr} {cap cap2 : Nat} {js : List Tri} {m : List (List Int)} {w : World} (h : TriAt w A js) (hlen : js.length ≤ 9223372036854775807) (t : ¬ TasksOk js) :
    Calls Try.prog 13 #[.slice A js.length cap, .slice M m.length cap2] w (LawPost js m w) := by
  have C := Lib.hid (Check_bad (cap := cap) h hlen t)
  clear h t
  go_enter Try.func13, Try.ntmps13
  go_wp2_with fail
  refine C.out.mono ?_
  rintro e w1 ⟨hs, k, rfl⟩
  go_wp2
  go_ret3
  exact LawPost.bad k hs
set_option maxRecDepth 100000 in
theorem Lawler_form {A M : Option Addr} {cap cap2 : Nat} {js : List Tri} {m : List (List Int)} {w : World} (h : TriAt w A js) (t : TasksOk js) (hne : m.length ≠ js.length) :
    Calls Try.prog 13 #[.slice A js.length cap, .slice M m.length cap2] w (LawPost js m w) := by
  have C := Lib.hid (Check_ok (cap := cap) h t)
  have hb : ((m.length : Int) != (js.length : Int)) = true := by rw [bne_iff_ne]; omega
  clear h t hne
  go_enter Try.func13, Try.ntmps13
  go_wp2_with fail
  refine C.out.mono ?_
  rintro e w1 ⟨hs, rfl⟩
  go_wp2
  go_ret3
  exact LawPost.bad 3 hs
theorem Lawler_any {A M : Option Addr} {cap cap2 : Nat} {js : List Tri} {m : List (List Int)} {w : World} (h : TriAt w A js) (hlen : js.length ≤ 9223372036854775807) (hm : MapAt w M m) (hsum : m.length = js.length → (m.map List.length).sum ≤ 60) :
    Calls Try.prog 13 #[.slice A js.length cap, .slice M m.length cap2] w (LawPost js m w) := by
  by_cases t : TasksOk js
  · by_cases e : m.length = js.length
    · exact Lawler_ok h t hm e (hsum e)
    · exact Lawler_form h t e
  · exact Lawler_bad h hlen t

/-- what z costs in a row -/
def cst (js : List Tri) (l : List Nat) (z : Nat) : Int := wg js z * max 0 (endIn (lg js) 0 l z - du js z)
def WorstPost (js : List Tri) (m : List (List Int)) (l : List Nat) (w : World) (e : Ending) (w' : World) : Prop :=
  w.Since w.heap.size w' ∧ ∃ (c : Int) (ok : Bool), e = .returned (.tuple #[.int .i64 c, .bool ok]) ∧ (ok = true → keeps js.length (ahd m) l ∧ ∀ x, c ≤ x ↔ under (lg js) (wg js) (du js) (allL js) l x) ∧ (ok = false → ¬ keeps js.length (ahd m) l)
set_option maxHeartbeats 8000000 in
set_option maxRecDepth 100000 in
theorem worst_ok {A M A2 : Option Addr} {cap cap2 cap3 : Nat} {js : List Tri} {m : List (List Int)} {l : List Nat} {w : World} (h : TriAt w A js) (t : TasksOk js) (hm : MapAt w M m) (hml : m.length = js.length)
    (hr60 : ∀ r ∈ m, r.length ≤ 60) (hin : ∀ x, x < js.length → ∀ k ∈ ahd m x, 0 ≤ k ∧ k < (js.length : Int)) (h2 : IntsAt w A2 (ints l)) (hp : IsPerm js.length l) :
    Calls Try.prog 14 #[.slice A js.length cap, .slice M m.length cap2, .slice A2 js.length cap3] w (WorstPost js m l w) := by
  have hfew := t.few
  have hll : l.length ≤ 60 := by rw [hp.len]; exact hfew
  have hmk := run_make_row' (P := Try.prog) 23 3 (.int .i64 0) 8 Try.underlying23 info_int rfl .i64 .i64 js.length (by omega) (by omega)
  have C := Lib.hid (Ends_ok (cap := cap) (cap2 := cap3) h t h2 hp)
  have HJ := Lib.hid h
  have HO := Lib.hid t
  have HM := Lib.hid hm
  have Hml := Lib.hid hml
  have HI := Lib.hid h2
  have HP := Lib.hid hp
  have Hr60 := Lib.hid hr60
  have Hin := Lib.hid hin
  have HL := Lib.hid hp.len
  have Hmk := Lib.hid hmk
  clear h t hm hml hr60 hin h2 hp hmk
  go_enter Try.func14, Try.ntmps14
  go_wp2_with fail
  refine C.out.mono ?_
  rintro e w1 ⟨hs1, g, rfl, hg, hrow⟩
  have hmk := Hmk.out
  have Hrow := Lib.hid hrow
  clear hrow
  go_wp2
  clear hmk
  have hs3 := hs1.alloc hs1.size (Obj.cells (madeCells #[Value.int .i64 0] js.length) 3)
  have hr3 := World.rowIs_made w1 (Value.int .i64 0) js.length 3
  have Hrow3 := Lib.hid (Hrow.out.alloc (Obj.cells (madeCells #[Value.int .i64 0] js.length) 3))
  have hgB := Hrow.out.lt
  obtain ⟨B, hB⟩ : ∃ B, B = w1.heap.size := ⟨_, rfl⟩
  have hB1 : w.heap.size ≤ B := by rw [hB]; exact hs1.size
  rw [← hB] at hr3 hgB ⊢
  clear hB hs1 Hrow
  generalize w1.alloc (Obj.cells (madeCells #[Value.int .i64 0] js.length) 3) = w3 at *
  go_loopg [11] js.length (fun gh iv wr => ∃ (k : Nat), k ≤ js.length ∧ gh = js.length - k ∧ iv = .int .i64 k ∧ w.Since w.heap.size wr ∧ Hid (wr.rowIs g 3 js.length (fun i => .int .i64 (endIn (lg js) 0 l i))) ∧ wr.rowIs B 3 js.length (fun z => .int .i64 ((if z ∈ l.take k then posIn l z else 0 : Nat) : Int)))
  case atStart => exact ⟨0, Nat.zero_le _, rfl, rfl, hs3, Hrow3, hr3.congr (fun i _ => by simp)⟩
  case round =>
    clear hs3 hr3 Hrow3
    obtain ⟨k, hk, rfl, rfl, hs, hE, hrow⟩ := hrel
    by_cases hkl : k < js.length
    · have hkz : (k : Int) < (js.length : Int) := by omega
      obtain ⟨x, hx⟩ : ∃ x, l[k]? = some x := ⟨l[k]'(by rw [HL.out]; exact hkl), List.getElem?_eq_getElem _⟩
      have hxn : x < js.length := HP.out.lt x (List.mem_of_getElem? hx)
      obtain ⟨b2, off2, rfl, hb2, hc2⟩ := HI.out k (by rw [ints_len, HL.out]; exact hkl)
      have c5 := hc2 k (x : Int) (by unfold ints; rw [List.getElem?_map, hx]; rfl)
      rw [← hs.cell (show b2 < w.heap.size from hb2)] at c5
      have hxz : (x : Int) < (js.length : Int) := by omega
      have g1 := hrow.cell hxn
      have g2 := hrow.frozen x
      have Hx := Lib.hid hx
      have Hrow := Lib.hid hrow
      obtain ⟨old, hold⟩ : ∃ z : Nat, z = (if x ∈ l.take k then posIn l x else 0 : Nat) := ⟨_, rfl⟩
      rw [← hold] at g1
      clear hx hc2 hold hrow
      go_wp2
      go_roundg (js.length - (k + 1))
      case measure => go_light; omega
      case rel =>
        go_light
        refine ⟨k + 1, by omega, rfl, by go_num, hs.setCell (a := ⟨B, x, none⟩) hB1 _, Lib.hid (hE.out.setOther (a := ⟨B, x, none⟩) (by show g ≠ B; omega) _), (Hrow.out.set x _).congr (fun i hi => ?_)⟩
        have hmem : i ∈ l.take (k + 1) ↔ i ∈ l.take k ∨ i = x := by rw [take_snoc' Hx.out]; simp
        by_cases e : i = x
        · subst e
          rw [if_pos rfl, if_pos (hmem.2 (.inr rfl))]
          have hsp : l = l.take k ++ i :: l.drop (k + 1) := by
            conv => lhs; rw [← List.take_append_drop (k + 1) l, take_snoc' Hx.out]
            simp
          have hni : i ∉ l.take k := fun hm => by
            have hn := HP.out.nodup
            rw [hsp] at hn
            exact (List.nodup_append.1 hn).2.2 i hm i (List.mem_cons_self ..) rfl
          have := pos_split (b := l.drop (k + 1)) hni
          rw [← hsp, List.length_take] at this
          rw [this]
          congr 1
          have := HL.out
          omega
        · rw [if_neg e]
          by_cases hm : i ∈ l.take k
          · rw [if_pos hm, if_pos (hmem.2 (.inl hm))]
          · rw [if_neg hm, if_neg (fun h => by rcases hmem.1 h with h | h; exact hm h; exact e h)]
    · obtain rfl : js.length = k := by omega
      have hat : wr.rowIs B 3 js.length (fun z => .int .i64 (posIn l z : Nat)) := hrow.congr (fun i hi => by
        rw [List.take_of_length_le (by rw [HL.out]; exact Nat.le_refl _), if_pos (HP.out.all i hi)])
      have Hat := Lib.hid hat
      clear hrow hat
      go_wp2
      go_loopg [12, 13] js.length (fun gh mv iv wq => ∃ (i q : Nat) (v : Int), i ≤ js.length ∧ gh = js.length - i ∧ mv = .int .i64 v ∧ iv = .int .i64 i ∧ 0 ≤ v ∧ v ≤ 600000000000000 ∧ Hid (∀ x, v ≤ x ↔ 0 ≤ x ∧ ∀ z, z < i → cst js l z ≤ x) ∧
        Hid (∀ z, z < i → ∀ k ∈ ahd m z, posIn l k.toNat < posIn l z) ∧ wq = wr.drewN q)
      case atStart => exact ⟨0, 0, 0, Nat.zero_le _, rfl, rfl, rfl, by omega, by omega, Lib.hid (fun x => ⟨fun h => ⟨h, fun z hz => absurd hz (by omega)⟩, fun h => h.1⟩), Lib.hid (fun z hz => absurd hz (by omega)), rfl⟩
      case round =>
        obtain ⟨i, q, v, hi, rfl, rfl, rfl, hv0, hv1, hv, hpos, rfl⟩ := hrel
        by_cases hil : i < js.length
        · have hiz : (i : Int) < (js.length : Int) := by omega
          obtain ⟨b, off, rfl, hb, hc⟩ := HJ.out i hil
          obtain ⟨y, hy⟩ : ∃ y, js[i]? = some y := ⟨js[i], List.getElem?_eq_getElem hil⟩
          obtain ⟨_, c1, c2⟩ := hc i y hy
          rw [← hs.cell (show b < w.heap.size from hb)] at c1 c2
          obtain ⟨_, hwg, hdu⟩ := tri_at hy
          have b1 := ends_bd HO.out hll i
          have hcb := lateC_bd HO.out b1.2 i
          have hbd := task_bd HO.out i
          have hcs : cst js l i = wg js i * max 0 (endIn (lg js) 0 l i - du js i) := rfl
          rw [hwg, hdu] at hcb hcs hbd
          have g1 := hE.out.cell hil
          obtain ⟨y1, y2, y3⟩ := y
          simp only at c1 c2 hcb hcs hbd
          generalize endIn (lg js) 0 l i = ek at *
          obtain ⟨_, ⟨d1, d2⟩, d3, d4⟩ := hbd
          obtain ⟨b1, b2⟩ := b1
          obtain ⟨n1, n2⟩ := hcb
          have n3 : -1000000000 ≤ ek - y3 := by omega
          have n4 : ek - y3 ≤ 60000000000 := by omega
          obtain ⟨r, hr⟩ : ∃ r, m[i]? = some r := ⟨m[i]'(by have := Hml.out; omega), List.getElem?_eq_getElem _⟩
          obtain ⟨b2', off2, rfl, hb2, hc2⟩ := HM.out i (by have := Hml.out; omega)
          obtain ⟨A', c', hc3, hI⟩ := hc2 i r hr
          rw [← hs.cell (show b2' < w.heap.size from hb2)] at hc3
          have him : (i : Int) < (m.length : Int) := by have := Hml.out; omega
          have hrl := Hr60.out r (List.mem_of_getElem? hr)
          have Hr := Lib.hid hr
          have HI2 := Lib.hid hI
          have Hcs := Lib.hid hcs
          clear hc hy hwg hdu hcs hc2 hr hI
          obtain ⟨P, hP, hP1⟩ : ∃ P, (0 ≤ P ∧ P ≤ 600000000000000) ∧ cst js l i = P := ⟨_, ⟨n1, n2⟩, Hcs.out⟩
          have HP1 := Lib.hid hP1
          clear hP1
          have hmaxv : ∀ u : Int, u = max v P → Hid (∀ x, u ≤ x ↔ 0 ≤ x ∧ ∀ z, z < i + 1 → cst js l z ≤ x) := fun u hu => Lib.hid (fun x => by
            rw [hu, Int.max_le, hv.out, ← HP1.out]
            constructor
            · rintro ⟨⟨h1, h2⟩, h3⟩
              refine ⟨h1, fun z hz => ?_⟩
              by_cases e : z = i
              · subst e; exact h3
              · exact h2 z (by omega)
            · rintro ⟨h1, h2⟩
              exact ⟨⟨h1, fun z hz => h2 z (by omega)⟩, h2 i (by omega)⟩)
          have Hmaxv := Lib.hid hmaxv
          clear hmaxv
          have h3 : (y3 < ek ∧ v < y2 * (ek - y3)) ∨ (y3 < ek ∧ y2 * (ek - y3) ≤ v) ∨ ek ≤ y3 := by omega
          rcases h3 with ⟨hlt, hv'⟩ | ⟨hlt, hv'⟩ | hlt
          case' inl =>
            have hmx : max 0 (ek - y3) = ek - y3 := by omega
            have hpos' : 0 < ek - y3 := by omega
            rw [hmx] at n1 n2
            have HPe : Hid (P = y2 * (ek - y3)) := Lib.hid (by rw [← HP1.out, Hcs.out, hmx])
            clear hmx Hcs
            go_wp2
            go_quiet (fail)
            go_wp2
            have HM2 := Hmaxv.out (y2 * (ek - y3)) (by rw [HPe.out]; omega)
            have hm0 : 0 ≤ y2 * (ek - y3) := by omega
            have hm1 : y2 * (ek - y3) ≤ 600000000000000 := by omega
            clear hv Hmaxv
            generalize y2 * (ek - y3) = v2 at *
          case' inr.inl =>
            have hmx : max 0 (ek - y3) = ek - y3 := by omega
            have hpos' : 0 < ek - y3 := by omega
            rw [hmx] at n1 n2
            have HPe : Hid (P = y2 * (ek - y3)) := Lib.hid (by rw [← HP1.out, Hcs.out, hmx])
            clear hmx Hcs
            go_wp2
            go_quiet (fail)
            go_wp2
            have HM2 := Hmaxv.out (v) (by rw [HPe.out]; omega)
            have hm0 : 0 ≤ v := by omega
            have hm1 : v ≤ 600000000000000 := by omega
            clear hv Hmaxv
            generalize v = v2 at *
          case' inr.inr =>
            have hmx : max 0 (ek - y3) = 0 := by omega
            have hpos' : ek - y3 ≤ 0 := by omega
            rw [hmx, Int.mul_zero] at n1 n2
            have HPe : Hid (P = 0) := Lib.hid (by rw [← HP1.out, Hcs.out, hmx, Int.mul_zero])
            clear hmx Hcs
            go_wp2
            go_quiet (fail)
            go_wp2
            have HM2 := Hmaxv.out (v) (by rw [HPe.out]; omega)
            have hm0 : 0 ≤ v := by omega
            have hm1 : v ≤ 600000000000000 := by omega
            clear hv Hmaxv
            generalize v = v2 at *
          all_goals
            clear c1 c2 g1 hc3
            go_loopg [14] r.length (fun gh jv wq => ∃ (j q : Nat), j ≤ r.length ∧ gh = r.length - j ∧ jv = .int .i64 j ∧ Hid (∀ a ∈ r.take j, posIn l a.toNat < posIn l i) ∧ wq = wr.drewN q)
            case atStart => exact ⟨0, _, Nat.zero_le _, rfl, rfl, Lib.hid (by simp), World.drewN_drewN _ _ _⟩
            case round =>
              obtain ⟨j, q, hj, rfl, rfl, hjp, rfl⟩ := hrel
              obtain ⟨b2', off2, e2, hb2, hc2⟩ := HM.out i (by have := Hml.out; omega)
              injection e2 with e2
              injection e2 with e3 e4
              subst e3 e4
              obtain ⟨A2', c2', hc3, hI⟩ := hc2 i r Hr.out
              rw [← hs.cell (show _ < w.heap.size from hb2)] at hc3
              have HI3 := Lib.hid hI
              clear hc2 hI
              by_cases hjl : j < r.length
              · have hjz : (j : Int) < (r.length : Int) := by omega
                obtain ⟨b3, off3, rfl, hb3, hc4⟩ := HI3.out j hjl
                obtain ⟨k, hk⟩ : ∃ k, r[j]? = some k := ⟨r[j], List.getElem?_eq_getElem hjl⟩
                have g0 := hc4 j k hk
                rw [← hs.cell (show b3 < w.heap.size from hb3)] at g0
                have hkm : k ∈ ahd m i := by rw [ahd_at Hr.out]; exact List.mem_of_getElem? hk
                obtain ⟨k0, k1⟩ := Hin.out i hil k hkm
                obtain ⟨k', rfl⟩ := Int.eq_ofNat_of_zero_le k0
                have hkn : k' < js.length := by omega
                have g5 := Hat.out.cell hkn
                have g6 := Hat.out.cell hil
                have Hk := Lib.hid hk
                have Hkm := Lib.hid hkm
                clear hc4 hk hkm
                obtain ⟨pk, hpk⟩ : ∃ z, z = posIn l k' := ⟨_, rfl⟩
                obtain ⟨pi, hpi⟩ : ∃ z, z = posIn l i := ⟨_, rfl⟩
                rw [← hpk] at g5
                rw [← hpi] at g6
                have Hpk := Lib.hid hpk
                have Hpi := Lib.hid hpi
                clear hpk hpi
                by_cases hge : pi ≤ pk
                · have hgez : (pi : Int) ≤ (pk : Int) := by omega
                  go_wp2
                  go_quiet (fail)
                  go_wp2
                  go_ret2
                  refine ⟨since_drewN (since_drewN hs _) _, 0, false, rfl, (fun h => by cases h), fun _ h => ?_⟩
                  have h1 := (keeps_pos (A := ahd m) (perm_range HP.out) Hin.out).1 h i hil (k' : Int) Hkm.out
                  rw [Int.toNat_natCast, ← Hpk.out, ← Hpi.out] at h1
                  omega
                · have hgez : (pk : Int) < (pi : Int) := by omega
                  go_wp2
                  go_quiet (fail)
                  go_wp2
                  go_roundg (r.length - (j + 1))
                  case measure => go_light; omega
                  case rel =>
                    go_light
                    refine ⟨j + 1, _, by omega, rfl, by go_num, Lib.hid ?_, rfl⟩
                    rw [take_snoc' Hk.out, List.forall_mem_append]
                    refine ⟨hjp.out, fun a ha => ?_⟩
                    rw [List.mem_singleton.1 ha, Int.toNat_natCast, ← Hpk.out, ← Hpi.out]
                    omega
              · obtain rfl : r.length = j := by omega
                have hjp' := hjp.out
                rw [List.take_of_length_le (Nat.le_refl _)] at hjp'
                have Hjp := Lib.hid hjp'
                clear hjp hjp'
                go_wp2
                go_roundg (js.length - (i + 1))
                case measure => go_light; omega
                case rel =>
                  go_light
                  refine ⟨i + 1, _, v2, by omega, rfl, rfl, by go_num, hm0, hm1, HM2, Lib.hid (fun z hz k hk => ?_), rfl⟩
                  by_cases e : z = i
                  · subst e
                    rw [ahd_at Hr.out] at hk
                    exact Hjp.out k hk
                  · exact hpos.out z (by omega) k hk
        · obtain rfl : js.length = i := by omega
          have hk := (keeps_pos (A := ahd m) (perm_range HP.out) Hin.out).2 hpos.out
          have hT : allL js = 0 + sumI (lg js) l := by
            unfold allL
            rw [sumI_perm (perm_range HP.out)]; omega
          have hu : ∀ x, v ≤ x ↔ under (lg js) (wg js) (du js) (allL js) l x := fun x => by
            rw [under_end l HP.out.nodup 0 (allL js) x hT, hv.out]
            constructor
            · rintro ⟨h1, h2⟩
              exact ⟨h1, fun z hz => h2 z (HP.out.lt z hz)⟩
            · rintro ⟨h1, h2⟩
              exact ⟨h1, fun z hz => h2 z (HP.out.all z hz)⟩
          have Hk := Lib.hid hk
          have Hu := Lib.hid hu
          clear hk hu hT
          go_wp2
          go_ret2
          exact ⟨since_drewN hs q, v, true, rfl, fun _ => ⟨Hk.out, Hu.out⟩, fun h => by cases h⟩
end Go.Proofs.Ytimbkogdlmkdgaa
