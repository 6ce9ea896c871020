/- shop: McNaughton. -/
import Derived.Test.YtjndmehhdgiphaaW5
import Derived.Test.YtjndmehhdgiphaaQuad
namespace Go.Proofs.Ytjndmehhdgiphaa
open Go.RowKit PermM McM

def mostL (l : List Int) : Int := l.foldl max 0
theorem mostL_snoc {l : List Int} {k : Nat} {x : Int} (h : l[k]? = some x) : mostL (l.take (k + 1)) = max (mostL (l.take k)) x := by
  unfold mostL
  rw [take_snoc' h, List.foldl_append]; rfl
def endL (l : List Int) (M : Int) : Int := max (mostL l) ((pre l l.length + M - 1) / M)
theorem pre_at {l : List Int} {k : Nat} {x : Int} (h : l[k]? = some x) : pre l (k + 1) = pre l k + x := by
  obtain ⟨hk, hx⟩ := List.getElem?_eq_some_iff.1 h
  rw [pre_succ hk, List.getD_eq_getElem?_getD, h]; rfl
theorem mostL_ge (l : List Int) : 0 ≤ mostL l ∧ ∀ x ∈ l, x ≤ mostL l := by
  have h : ∀ (l : List Int) (a : Int), a ≤ l.foldl max a ∧ ∀ x ∈ l, x ≤ l.foldl max a := by
    intro l
    induction l with
    | nil => intro a; exact ⟨Int.le_refl _, by simp⟩
    | cons y l ih =>
      intro a
      obtain ⟨h1, h2⟩ := ih (max a y)
      refine ⟨by show a ≤ l.foldl max (max a y); omega, fun x hx => ?_⟩
      show x ≤ l.foldl max (max a y)
      rcases List.mem_cons.1 hx with rfl | hx
      · omega
      · exact h2 x hx
  exact h l 0
theorem endL_facts {l : List Int} {M : Int} (h : LensOk l M) : (∀ x ∈ l, 0 ≤ x ∧ x ≤ endL l M) ∧ pre l l.length ≤ M * endL l M := by
  have h1 := mc_end (m := M) (most := mostL l) (all := pre l l.length) (E := endL l M) h.lo rfl
  have h2 := mostL_ge l
  refine ⟨fun x hx => ⟨(h.ok x hx).1, ?_⟩, ?_⟩
  · have := h2.2 x hx
    omega
  · rw [Int.mul_comm]; exact h1.2.2
/-- McNaughton's memory -/
structure McW (w wr : World) (l : List Int) (E : Int) (i : Nat) (a mc now : Int) (ps : List Quad) (v : Value) : Prop where
  since : w.Since w.heap.size wr
  row : wr.ownsRow w.heap.size 49 4 v ps.length (quadsV ps)
  st : McSt l E i a mc now ps
structure McRes (l : List Int) (M : Int) (ps : List Quad) : Prop where
  fits : FitsOk l M (endL l M) ps
  few : ps.length ≤ 60000000000
def McPost (l : List Int) (M : Int) (w : World) (e : Ending) (w' : World) : Prop :=
  w.Since w.heap.size w' ∧ ∃ (ps : List Quad) (P : Option Addr) (c : Nat), e = .returned (.tuple #[.int .i64 (endL l M), .slice P ps.length c, .nilIface]) ∧ McRes l M ps ∧ QuadAt w' P ps
set_option maxHeartbeats 8000000 in
set_option maxRecDepth 100000 in
theorem Mc_ok {A : Option Addr} {cap : Nat} {l : List Int} {M : Int} {w : World} (h : IntsAt w A l) (t : LensOk l M) :
    Calls Try.prog 11 #[.slice A l.length cap, .int .i64 M] w (McPost l M w) := by
  have hfew := t.few
  have hlo := t.lo
  have hhi := t.hi
  have C1 := Lib.hid (lengths_ok (cap := cap) h t)
  have HI := Lib.hid h
  have HT := Lib.hid t
  clear h t
  go_enter Try.func11, Try.ntmps11
  go_wp2_with fail
  refine C1.out.mono ?_
  rintro e w1 ⟨rfl, rfl⟩
  go_wp2
  go_loopg [8, 9, 26] l.length (fun gh av ev iv wr => ∃ (k : Nat) (v e : Int), k ≤ l.length ∧ gh = l.length - k ∧ iv = .int .i64 k ∧ av = .int .i64 v ∧ ev = .int .i64 e ∧ 0 ≤ v ∧ v ≤ 1000000000 * k ∧ 0 ≤ e ∧ e ≤ 1000000000 ∧ Hid (v = pre l k) ∧ Hid (e = mostL (l.take k)) ∧ w = wr)
  case atStart => exact ⟨0, 0, 0, Nat.zero_le _, rfl, rfl, rfl, rfl, by omega, by omega, by omega, by omega, Lib.hid (by simp [pre]), Lib.hid (by simp [mostL]), rfl⟩
  case round =>
    obtain ⟨k, v, e, hk, rfl, rfl, rfl, rfl, v0, v1, e0, e1, hv, he, rfl⟩ := hrel
    by_cases hkl : k < l.length
    · have hkz : (k : Int) < (l.length : Int) := by omega
      obtain ⟨b, off, rfl, hb, hc⟩ := HI.out k hkl
      obtain ⟨x, hx⟩ : ∃ x, l[k]? = some x := ⟨l[k], List.getElem?_eq_getElem hkl⟩
      have c0 := hc k x hx
      have hx01 := HT.out.ok x (List.mem_of_getElem? hx)
      obtain ⟨x0, x1⟩ := hx01
      have Hx := Lib.hid hx
      clear hc hx
      by_cases hmx : x ≤ e
      · go_wp2
        go_roundg (l.length - (k + 1))
        case measure => go_light; omega
        case rel =>
          go_light
          exact ⟨k + 1, v + x, e, by omega, rfl, by go_num, rfl, rfl, by omega, by omega, e0, e1, Lib.hid (by rw [pre_at Hx.out, hv.out]), Lib.hid (by rw [mostL_snoc Hx.out, ← he.out]; omega), rfl⟩
      · have hmx' : e < x := by omega
        clear hmx
        go_wp2
        go_roundg (l.length - (k + 1))
        case measure => go_light; omega
        case rel =>
          go_light
          exact ⟨k + 1, v + x, x, by omega, rfl, by go_num, rfl, rfl, by omega, by omega, x0, x1, Lib.hid (by rw [pre_at Hx.out, hv.out]), Lib.hid (by rw [mostL_snoc Hx.out, ← he.out]; omega), rfl⟩
    · obtain rfl : l.length = k := by omega
      have v2 : v ≤ 60000000000 := by omega
      have d1 : 0 ≤ v + M - 1 := by omega
      have d2 : v + M - 1 ≤ 60000000020 := by omega
      have d3 : 0 ≤ (v + M - 1) / M := Int.ediv_nonneg d1 (by omega)
      have d4 : (v + M - 1) / M ≤ 60000000020 := Int.le_trans (Int.ediv_le_self _ d1) d2
      have hEn : ∀ z, z = max e ((v + M - 1) / M) → Hid (z = endL l M) := fun z hz => Lib.hid (by
        have h1 := hv.out
        have h2 := he.out
        rw [List.take_of_length_le (Nat.le_refl _)] at h2
        rw [hz, h1, h2]; rfl)
      have HEn := Lib.hid hEn
      clear hEn
      by_cases hmx : (v + M - 1) / M ≤ e
      case' pos =>
        have HE := HEn.out e (by omega)
        have E0 : 0 ≤ e := e0
        have E1 : e ≤ 60000000020 := by omega
        go_wp2
        clear hmx d1 d2 d3 d4 he hv HEn
        generalize e = E at *
      case' neg =>
        have hmx' : e < (v + M - 1) / M := by omega
        have HE := HEn.out ((v + M - 1) / M) (by omega)
        have E0 := d3
        have E1 := d4
        clear hmx
        go_wp2
        clear hmx' d1 d2 d3 d4 he hv HEn
        generalize (v + M - 1) / M = E at *
      all_goals
        go_loopg [12, 13, 14, 47] l.length (fun gh ov mv nv iv wr => ∃ (i : Nat) (mc now : Int) (ps : List Quad), i ≤ l.length ∧ gh = l.length - i ∧ iv = .int .i64 i ∧ mv = .int .i64 mc ∧ nv = .int .i64 now ∧ 0 ≤ now ∧ now ≤ E ∧ 0 ≤ mc ∧ mc ≤ 60000000000 ∧ Hid (McW w wr l E i 0 mc now ps ov))
        case atStart => exact ⟨0, 0, 0, [], Nat.zero_le _, rfl, rfl, rfl, rfl, by omega, by omega, by omega, by omega, Lib.hid ⟨World.Since.refl _ _, ⟨rfl, .inl ⟨rfl, rfl⟩⟩, mc_start E0⟩⟩
        case round =>
          obtain ⟨i, mc, now, ps, hi, rfl, rfl, rfl, rfl, n0, n1, m0, m1, hW⟩ := hrel
          by_cases hil : i < l.length
          · have hiz : (i : Int) < (l.length : Int) := by omega
            obtain ⟨b, off, rfl, hb, hc⟩ := HI.out i hil
            obtain ⟨x, hx⟩ : ∃ x, l[i]? = some x := ⟨l[i], List.getElem?_eq_getElem hil⟩
            have c0 := hc i x hx
            rw [← hW.out.since.cell (show b < w.heap.size from hb)] at c0
            obtain ⟨x0, x1⟩ := HT.out.ok x (List.mem_of_getElem? hx)
            have hxE := (endL_facts HT.out).1 x (List.mem_of_getElem? hx)
            rw [← HE.out] at hxE
            have xE := hxE.2
            have Hgd : Hid (l.getD i 0 = x) := Lib.hid (by rw [List.getD_eq_getElem?_getD, hx]; rfl)
            have Hx := Lib.hid hx
            clear hc hx hxE
            go_wp2
            go_loopg [12, 13, 14, 16] x.toNat (fun gh ov mv nv rv wq => ∃ (r mc now : Int) (ps : List Quad), gh = r.toNat ∧ rv = .int .i64 r ∧ mv = .int .i64 mc ∧ nv = .int .i64 now ∧ 0 ≤ r ∧ r ≤ x ∧ 0 ≤ now ∧ now ≤ E ∧ 0 ≤ mc ∧ mc ≤ 60000000000 ∧ Hid (McW w wq l E i (x - r) mc now ps ov))
            case atStart => exact ⟨x, mc, now, ps, rfl, rfl, rfl, rfl, x0, Int.le_refl _, n0, n1, m0, m1, by rw [Int.sub_self]; exact hW⟩
            case round =>
              clear hW c0 n0 n1 m0 m1
              obtain ⟨r, mc, now, ps, rfl, rfl, rfl, rfl, r0, r1, n0, n1, m0, m1, hW⟩ := hrel
              by_cases hr : 0 < r
              · have hE0 : 0 < E := by omega
                have hnE : now < E := by
                  rcases hW.out.st.nowE with h1 | h1
                  · exact h1
                  · omega
                obtain ⟨j0, hj0, hy0, hy1, hy2⟩ := info_parts info_quad
                have Hj0 := Lib.hid hj0
                have Hy0 := Lib.hid hy0
                have Hy1 := Lib.hid hy1
                have Hy2 := Lib.hid hy2
                have hcnt := hW.out.st.cnt
                have hpreb := pre_bd (B := 1000000000) (by omega) HT.out.ok i hi
                have hDb : pre l i + (x - r) + r ≤ 60000000000 := by omega
                have hpl : ps.length ≤ 60000000000 := by omega
                have hB2 : ∀ z : Value, w.heap.size ≤ (wr.alloc (Obj.cells #[Value.int .i64 mc, Value.int .i64 (i : Int), Value.int .i64 now, z] 49)).heap.size := fun z => by have := hW.out.since.size; simp; omega
                have hown : ∀ z : Value, (wr.alloc (Obj.cells #[Value.int .i64 mc, Value.int .i64 (i : Int), Value.int .i64 now, z] 49)).ownsRow w.heap.size 49 4 _ ps.length (quadsV ps) := fun z => own_since' hW.out.row ((World.Since.refl _ _).alloc (Nat.le_refl _) _)
                have HB2 := Lib.hid hB2
                have Hown := Lib.hid hown
                clear hj0 hy0 hy1 hy2 hcnt hpreb hB2 hown
                by_cases hmn : r ≤ E - now
                · have hown := Hown.out (.int .i64 (now + r))
                  have hB2 := HB2.out (.int .i64 (now + r))
                  by_cases heq : now + r = E
                  · have hb : ((now + r) == E) = true := by rw [beq_iff_eq]; exact heq
                    have Heq := Lib.hid heq
                    clear heq
                    go_wp2_with (at_builtin; refine wpList_append_own _ rfl _ _ 33 rfl w.heap.size 49 j0 _ 4 32 Try.underlying33 Hj0.out Hy0.out Hy1.out Hy2.out rfl (by decide) _ _ _ rfl hown ⟨wr.heap.size, 0, none⟩ 1 1 (quadV (mc, (i : Int), now, now + r)) rfl rfl (quad_new _ _ _ _ _ _) (by intro u hu; simp [quadV] at hu; rcases hu with rfl | rfl | rfl | rfl <;> rfl) (by unfold maxLen; omega) (by omega) hB2 ?_; intro v8 w8 hown8 hg8 _)
                    have hs8 : w.Since w.heap.size w8 := own_grown (hW.out.since.alloc hW.out.since.size _) hown hg8 hB2
                    go_roundg (0)
                    case measure => go_light; omega
                    case rel =>
                      go_light
                      have hst := mc_part hil hE0 hW.out.st (by omega) (k := r) (by omega) (by rw [Hgd.out]; omega) (by omega) (mc + 1) (0) (.inl ⟨Heq.out, rfl, rfl⟩)
                      have hcD := hst.mcD
                      refine ⟨0, mc + 1, 0, ps ++ [(mc, (i : Int), now, now + r)], by first | rfl | (congr 1; omega), by first | rfl | exact congrArg (Value.int .i64) (by omega), rfl, by first | rfl | exact congrArg (Value.int .i64) (by omega), by omega, by omega, by omega, by omega, by omega, by first | omega | skip, Lib.hid ⟨hs8, ?_, ?_⟩⟩
                      · rw [List.length_append, quadsV_snoc]; exact hown8
                      · rw [show x - (0) = x - r + (r) by omega]; exact hst
                  · have hb : ((now + r) == E) = false := by rw [beq_eq_false_iff_ne]; exact heq
                    have hlt : now + r < E := by omega
                    clear heq
                    go_wp2_with (at_builtin; refine wpList_append_own _ rfl _ _ 33 rfl w.heap.size 49 j0 _ 4 32 Try.underlying33 Hj0.out Hy0.out Hy1.out Hy2.out rfl (by decide) _ _ _ rfl hown ⟨wr.heap.size, 0, none⟩ 1 1 (quadV (mc, (i : Int), now, now + r)) rfl rfl (quad_new _ _ _ _ _ _) (by intro u hu; simp [quadV] at hu; rcases hu with rfl | rfl | rfl | rfl <;> rfl) (by unfold maxLen; omega) (by omega) hB2 ?_; intro v8 w8 hown8 hg8 _)
                    have hs8 : w.Since w.heap.size w8 := own_grown (hW.out.since.alloc hW.out.since.size _) hown hg8 hB2
                    go_roundg (0)
                    case measure => go_light; omega
                    case rel =>
                      go_light
                      have hst := mc_part hil hE0 hW.out.st (by omega) (k := r) (by omega) (by rw [Hgd.out]; omega) (by omega) (mc) (now + r) (.inr ⟨hlt, rfl, rfl⟩)
                      have hcD := hst.mcD
                      refine ⟨0, mc, now + r, ps ++ [(mc, (i : Int), now, now + r)], by first | rfl | (congr 1; omega), by first | rfl | exact congrArg (Value.int .i64) (by omega), rfl, by first | rfl | exact congrArg (Value.int .i64) (by omega), by omega, by omega, by omega, by omega, by omega, by first | omega | skip, Lib.hid ⟨hs8, ?_, ?_⟩⟩
                      · rw [List.length_append, quadsV_snoc]; exact hown8
                      · rw [show x - (0) = x - r + (r) by omega]; exact hst
                · have hmn' : E - now < r := by omega
                  clear hmn
                  have hb : ((now + (E - now)) == E) = true := by rw [beq_iff_eq]; omega
                  have hown := Hown.out (.int .i64 (now + (E - now)))
                  have hB2 := HB2.out (.int .i64 (now + (E - now)))
                  go_wp2_with (at_builtin; refine wpList_append_own _ rfl _ _ 33 rfl w.heap.size 49 j0 _ 4 32 Try.underlying33 Hj0.out Hy0.out Hy1.out Hy2.out rfl (by decide) _ _ _ rfl hown ⟨wr.heap.size, 0, none⟩ 1 1 (quadV (mc, (i : Int), now, now + (E - now))) rfl rfl (quad_new _ _ _ _ _ _) (by intro u hu; simp [quadV] at hu; rcases hu with rfl | rfl | rfl | rfl <;> rfl) (by unfold maxLen; omega) (by omega) hB2 ?_; intro v8 w8 hown8 hg8 _)
                  have hs8 : w.Since w.heap.size w8 := own_grown (hW.out.since.alloc hW.out.since.size _) hown hg8 hB2
                  go_roundg ((r - (E - now)).toNat)
                  case measure => go_light; omega
                  case rel =>
                    go_light
                    have hst := mc_part hil hE0 hW.out.st (by omega) (k := (E - now)) (by omega) (by rw [Hgd.out]; omega) (by omega) (mc + 1) (0) (.inl ⟨by omega, rfl, rfl⟩)
                    have hcD := hst.mcD
                    refine ⟨r - (E - now), mc + 1, 0, ps ++ [(mc, (i : Int), now, now + (E - now))], by first | rfl | (congr 1; omega), by first | rfl | exact congrArg (Value.int .i64) (by omega), rfl, by first | rfl | exact congrArg (Value.int .i64) (by omega), by omega, by omega, by omega, by omega, by omega, by first | omega | skip, Lib.hid ⟨hs8, ?_, ?_⟩⟩
                    · rw [List.length_append, quadsV_snoc]; exact hown8
                    · rw [show x - (r - (E - now)) = x - r + ((E - now)) by omega]; exact hst
              · obtain rfl : r = 0 := by omega
                go_wp2
                go_roundg (l.length - (i + 1))
                case measure => go_light; omega
                case rel =>
                  go_light
                  refine ⟨i + 1, mc, now, ps, by omega, rfl, by go_num, rfl, rfl, n0, n1, m0, m1, Lib.hid ⟨hW.out.since, hW.out.row, mc_next hil ?_⟩⟩
                  have := hW.out.st
                  rw [Int.sub_zero, ← Hgd.out] at this
                  exact this
          · obtain rfl : l.length = i := by omega
            obtain ⟨hf1, hf2⟩ := endL_facts HT.out
            rw [← HE.out] at hf1 hf2
            have hfit := mc_fits hf1 hf2 hW.out.st
            have hcnt := hW.out.st.cnt
            have hpb := pre_bd (B := 1000000000) (by omega) HT.out.ok l.length (Nat.le_refl _)
            have hpl : ps.length ≤ 60000000000 := by omega
            rw [HE.out] at hfit
            obtain ⟨A2, c2, rfl, _, _⟩ := own_form hW.out.row
            have Hfit := Lib.hid hfit
            clear hf1 hf2 hfit hcnt hpb
            go_wp2
            go_ret3
            exact ⟨hW.out.since, ps, A2, c2, by rw [← HE.out]; rfl, ⟨Hfit.out, hpl⟩, own_quads hW.out.row rfl⟩
end Go.Proofs.Ytjndmehhdgiphaa
