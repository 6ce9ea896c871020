/- line: Moore. -/
import Derived.Test.YtimbkogdlmkdgaaW8
import Derived.Test.YtimbkogdlmkdgaaOwnB
import Derived.Test.YtimbkogdlmkdgaaDelOne
namespace Go.Proofs.Ytimbkogdlmkdgaa
open Go.RowKit PermM StabM LineM

def natV (x : Nat) : Value := .int .i64 (x : Nat)
/-- Moore's row, Jackson's so far -/
def MoorePost (js : List Tri) (f : Nat → Nat) (w : World) (e : Ending) (w' : World) : Prop :=
  w.Since w.heap.size w' ∧ ∃ (on off : List Nat) (A : Option Addr) (cap : Nat), e = .returned (.tuple #[.slice A js.length cap, .nilIface]) ∧ MooreSt (lg js) (du js) (rowL js.length f) on off ∧ IntsAt w' A (ints (on ++ off))
theorem rowL_take {n : Nat} {f : Nat → Nat} {k : Nat} (h : k < n) : (rowL n f).take (k + 1) = (rowL n f).take k ++ [f k] :=
  take_snoc' (by
    have hl : (rowL n f).length = n := by unfold rowL seg; simp
    have := rowL_get (n := n) (f := f) h
    rw [List.getD_eq_getElem?_getD, List.getElem?_eq_getElem (by omega)] at this
    rw [List.getElem?_eq_getElem (by omega)]
    exact congrArg some this)
/-- rows whose first cells differ lie apart -/
theorem own_apartC {w : World} {b b' n n' : Nat} {v v' : Value} {xs xs' : List Value} (h : w.ownsRow b 3 1 v n xs) (h' : w.ownsRow b' 3 1 v' n' xs') {x y : Value} (hx : xs[0]? = some x) (hy : xs'[0]? = some y) (hne : x ≠ y) :
    ∀ g, v.ownBlock = some g → v'.ownBlock ≠ some g := fun g hg hg' => by
  have l1 := h.1
  have l2 := h'.1
  have k1 := (List.getElem?_eq_some_iff.1 hx).1
  have k2 := (List.getElem?_eq_some_iff.1 hy).1
  obtain ⟨g1, c1, rfl, _, _, _, _, hc1, _⟩ := own_at h (by omega)
  obtain ⟨g2, c2, rfl, _, _, _, _, hc2, _⟩ := own_at h' (by omega)
  simp [Value.ownBlock] at hg hg'
  subst hg hg'
  have e1 := hc1 0 x hx
  have e2 := hc2 0 y hy
  rw [e1] at e2
  injection e2 with e2
  exact hne e2
theorem own_base {w : World} {b b' n : Nat} {v : Value} {xs : List Value} (h : w.ownsRow b' 3 1 v n xs) (hb : b ≤ b') : w.ownsRow b 3 1 v n xs := by
  refine ⟨h.1, ?_⟩
  rcases h.2 with h0 | ⟨g, cap, cur, hv, hle, rest⟩
  · exact .inl h0
  · exact .inr ⟨g, cap, cur, hv, Nat.le_trans hb hle, rest⟩
theorem own_pick {w : World} {b n : Nat} {v : Value} {xs : List Value} (h : w.ownsRow b 3 1 v n xs) (hb : b ≤ w.heap.size) (h0 : n = 0 → v = .slice none 0 0) :
    ∃ b2, b ≤ b2 ∧ b2 ≤ w.heap.size ∧ w.ownsRow b2 3 1 v n xs ∧ (n = 0 → b2 = w.heap.size) := by
  by_cases hn : n = 0
  · refine ⟨w.heap.size, hb, Nat.le_refl _, ?_, fun _ => rfl⟩
    have := h.1
    subst hn
    rw [h0 rfl]
    exact ⟨this, .inl ⟨rfl, rfl⟩⟩
  · exact ⟨b, Nat.le_refl _, hb, h, fun h1 => absurd h1 hn⟩
/-- rows without a number in common lie apart -/
theorem apart_on {w : World} {b b' : Nat} {v v' : Value} {on off : List Nat} (h1 : w.ownsRow b 3 1 v on.length (on.map natV)) (h2 : w.ownsRow b' 3 1 v' off.length (off.map natV)) (hne : on ≠ []) (h0 : off = [] → v' = .slice none 0 0)
    (hd : ∀ x ∈ on, ∀ y ∈ off, x ≠ y) : ∀ g, v.ownBlock = some g → v'.ownBlock ≠ some g := by
  cases ho : off with
  | nil => rw [h0 ho]; intro q _ h2; simp [Value.ownBlock] at h2
  | cons z o =>
    obtain ⟨x, xs, hxx⟩ := List.exists_cons_of_ne_nil hne
    refine own_apartC h1 h2 (x := natV x) (y := natV z) (by rw [hxx]; rfl) (by rw [ho]; rfl) (fun e => ?_)
    have := hd x (by rw [hxx]; simp) z (by rw [ho]; simp)
    unfold natV at e
    injection e with _ e
    omega
def gx (l : List Nat) (i : Nat) : Nat := l.getD i 0
theorem gx_at {l : List Nat} {i : Nat} (h : i < l.length) : l[i]? = some (gx l i) := by
  unfold gx
  rw [List.getD_eq_getElem?_getD, List.getElem?_eq_getElem h]; rfl
theorem gx_mem {l : List Nat} {i : Nat} (h : i < l.length) : gx l i ∈ l := by
  have := gx_at h
  exact List.mem_of_getElem? this
theorem gx_split {l : List Nat} {i : Nat} (h : i < l.length) : l = l.take i ++ gx l i :: l.drop (i + 1) := by
  have h1 := gx_at h
  rw [List.getElem?_eq_getElem h] at h1
  injection h1 with h1
  rw [← h1, List.getElem_cons_drop, List.take_append_drop]
theorem ints_take (l : List Nat) (k : Nat) : (ints l).take k ++ (ints l).drop (k + 1) = ints (l.take k ++ l.drop (k + 1)) := by
  unfold ints
  rw [List.map_append, List.map_take, List.map_drop]
structure MooreW (js : List Tri) (f : Nat → Nat) (b : Nat) (w1 wr : World) (k : Nat) (on off : List Nat) (vOn vOff : Value) (now : Int) : Prop where
  since : w1.Since b wr
  size : b ≤ wr.heap.size
  rowOn : wr.ownsRow b 3 1 vOn on.length (on.map natV)
  rowOff : wr.ownsRow b 3 1 vOff off.length (off.map natV)
  apart : ∀ g, vOn.ownBlock = some g → vOff.ownBlock ≠ some g
  st : MooreSt (lg js) (du js) ((rowL js.length f).take k) on off
  sum : now = sumI (lg js) on
  none : off = [] → vOff = .slice none 0 0
set_option maxHeartbeats 8000000 in
set_option maxRecDepth 100000 in
theorem Moore_ok {A : Option Addr} {cap : Nat} {js : List Tri} {w : World} (h : TriAt w A js) (t : TasksOk js) :
    Calls Try.prog 15 #[.slice A js.length cap] w fun e w' => ∃ f, SortPost (cfL jackF js) js.length 0 js.length (fun i => i) f ∧ MoorePost js f w e w' := by
  have hfew := t.few
  have C := Lib.hid (Jackson_ok (cap := cap) h t)
  have HJ := Lib.hid h
  have HO := Lib.hid t
  clear h t
  go_enter Try.func15, Try.ntmps15
  go_wp2_with fail
  refine C.out.mono ?_
  rintro e w1 ⟨hs1, g, f, rfl, hg, hrow, hf⟩
  have Hf := Lib.hid hf
  clear hf C
  go_wp2
  go_loopg [6, 7, 8, 23] js.length (fun gh onv offv nv iv wr => ∃ (k : Nat) (on off : List Nat) (now : Int), k ≤ js.length ∧ gh = js.length - k ∧ iv = .int .i64 k ∧ nv = .int .i64 now ∧ Hid (MooreW js f w1.heap.size w1 wr k on off onv offv now))
  case atStart =>
    exact ⟨0, [], [], 0, Nat.zero_le _, rfl, rfl, rfl, Lib.hid ⟨World.Since.refl _ _, Nat.le_refl _, ⟨rfl, .inl ⟨rfl, rfl⟩⟩, ⟨rfl, .inl ⟨rfl, rfl⟩⟩, fun g hg => by simp [Value.ownBlock] at hg, moore_nil, rfl, fun _ => rfl⟩⟩
  case round =>
    obtain ⟨k, on, off, now, hk, rfl, rfl, rfl, hI⟩ := hrel
    by_cases hkl : k < js.length
    · have hkz : (k : Int) < (js.length : Int) := by omega
      obtain ⟨I1, I2, I3, I4, I5, I6, I7, I8⟩ := hI.out
      have hg1 := hrow.lt
      have c0 : wr.cell? ⟨g, k, none⟩ = some (.int .i64 (f k : Nat)) := by
        rw [I1.cell (show g < w1.heap.size from hg1)]; exact hrow.cell hkl
      have hpJ := rowL_perm Hf.out
      have hl : (rowL js.length f).length = js.length := by unfold rowL seg; simp
      have hfk : f k < js.length := hpJ.lt _ (by
        rw [← rowL_get (n := js.length) (f := f) hkl, List.getD_eq_getElem?_getD, List.getElem?_eq_getElem (by omega)]
        exact List.getElem_mem _)
      have hnd : ((rowL js.length f).take k ++ [f k]).Nodup := by
        rw [← rowL_take hkl]
        exact hpJ.nodup.sublist (List.take_sublist _ _)
      have hcnt : on.length + off.length = k := by
        have := I6.perm.length_eq
        rw [List.length_append, List.length_take, hl] at this
        omega
      have hwr : w.Since w.heap.size wr := since_join hs1 I1
      obtain ⟨b, off1, rfl, hb, hc⟩ := HJ.out (f k) hfk
      obtain ⟨y, hy⟩ : ∃ y, js[f k]? = some y := ⟨js[f k], List.getElem?_eq_getElem hfk⟩
      obtain ⟨c1, _, c3⟩ := hc (f k) y hy
      have hlg := (tri_at hy).1
      have hdu := (tri_at hy).2.2
      have hbd := task_bd HO.out (f k)
      have hsb := sum_bd HO.out on
      rw [← I7] at hsb
      rw [hlg, hdu] at hbd
      generalize y.1 = y1 at *
      generalize y.2.2 = y3 at *
      obtain ⟨i0, hi0, hz0, hz1, hz2⟩ := info_parts info_int
      have Hi0 := Lib.hid hi0
      have Hz0 := Lib.hid hz0
      have Hz1 := Lib.hid hz1
      have Hz2 := Lib.hid hz2
      have hfz : ((f k : Nat) : Int) < (js.length : Int) := by omega
      obtain ⟨fi, hfi⟩ : ∃ z, z = f k := ⟨_, rfl⟩
      rw [← hfi] at c0 c1 c3 hfz hfk hnd hlg hdu
      have hown : (wr.alloc (Obj.cells #[Value.int .i64 (fi : Nat)] 3)).ownsRow w1.heap.size 3 1 _ on.length (on.map natV) := own_since' I3 ((World.Since.refl _ _).alloc (Nat.le_refl _) _)
      have hB2 : w1.heap.size ≤ (wr.alloc (Obj.cells #[Value.int .i64 (fi : Nat)] 3)).heap.size := by simp; omega
      obtain ⟨⟨t1, t2⟩, _, t3, t4⟩ := hbd
      obtain ⟨t5, t6⟩ := hsb
      have n1 : 0 ≤ now + y1 := by omega
      have n2 : now + y1 ≤ 61000000000 := by omega
      have Hfi := Lib.hid hfi
      have H1 := Lib.hid I1
      have H4 := Lib.hid I4
      have H6 := Lib.hid I6
      have H8 := Lib.hid I8
      have H5 := Lib.hid I5
      have H3 := Lib.hid I3
      have Hsz := Lib.hid I2
      have H7 := Lib.hid I7
      have Hlg := Lib.hid hlg
      have Hdu := Lib.hid hdu
      have Hnd := Lib.hid hnd
      have Hhc := Lib.hid hc
      clear hi0 hz0 hz1 hz2 hc hy hfi I1 I2 I3 I4 I5 I6 I7 I8 hlg hdu hnd hpJ hl hwr
      by_cases hkeep : now + y1 ≤ y3
      · go_wp2_with (at_builtin; refine wpList_append_own _ rfl _ _ 23 rfl w1.heap.size 3 i0 (.int .i64 0) 1 8 Try.underlying23 Hi0.out Hz0.out Hz1.out Hz2.out rfl (by decide) _ _ _ rfl hown ⟨wr.heap.size, 0, none⟩ 1 1 [.int .i64 (fi : Nat)] rfl rfl (one_new _ _ _) (by intro u hu; simp at hu; subst hu; rfl) (by unfold maxLen; omega) (by omega) hB2 ?_; intro v8 w8 hown8 hg8 _; have hs8 : w1.Since w1.heap.size w8 := own_grown (H1.out.alloc Hsz.out _) hown hg8 hB2; have hw8 : w.Since w.heap.size w8 := since_join hs1 hs8; have d1 := (hw8.cell (a := ⟨b, off1 + fi * 3, none⟩) hb).trans c1; have d3 := (hw8.cell (a := ⟨b, off1 + fi * 3 + 2, none⟩) hb).trans c3)
        have hof8 : w8.ownsRow w1.heap.size 3 1 _ off.length (off.map natV) := own_block (own_since' H4.out ((World.Since.refl _ _).alloc (Nat.le_refl _) _)) (fun q hq => hg8.block q (by have := (H4.out.lt q hq).2; simp; omega) (fun e => H5.out q e.symm hq))
        have hon8 : w8.ownsRow w1.heap.size 3 1 v8 (on ++ [fi]).length ((on ++ [fi]).map natV) := by
          rw [List.length_append, List.map_append]; exact hown8
        go_roundg (js.length - (k + 1))
        case measure => go_light; omega
        case rel =>
          go_light
          refine ⟨k + 1, on ++ [fi], off, now + y1, by omega, rfl, by go_num, rfl, Lib.hid ⟨hs8, hs8.size, hon8, hof8, ?_, ?_, ?_, H8.out⟩⟩
          · cases ho : off with
            | nil => rw [H8.out ho]; intro q _ h2; simp [Value.ownBlock] at h2
            | cons z o =>
              have hdis : ∀ x ∈ on ++ [fi], x ≠ z := fun x hx e => by
                subst e
                have h1 : ((on ++ off) ++ [fi]).Nodup := (H6.out.perm.append_right [fi]).nodup_iff.2 Hnd.out
                have h2 := List.nodup_append.1 h1
                rcases List.mem_append.1 hx with h3 | h3
                · exact (List.nodup_append.1 h2.1).2.2 x h3 x (by rw [ho]; simp) rfl
                · exact h2.2.2 x (List.mem_append_right _ (by rw [ho]; simp)) x h3 rfl
              obtain ⟨x, xs, hxx⟩ := List.exists_cons_of_ne_nil (show on ++ [fi] ≠ [] by simp)
              refine own_apartC hon8 hof8 (x := natV x) (y := natV z) (by rw [hxx]; rfl) (by rw [ho]; rfl) (fun e => ?_)
              have := hdis x (by rw [hxx]; simp)
              unfold natV at e
              injection e with _ e
              omega
          · rw [rowL_take hkl, ← Hfi.out]
            exact moore_keep H6.out Hnd.out (by rw [Hlg.out, Hdu.out, ← H7.out]; exact hkeep)
          · rw [sumI_append, sumI_cons, Hlg.out, ← H7.out]; simp [sumI]
      · have hlate : y3 < now + y1 := by omega
        obtain ⟨n1, hn1⟩ : ∃ n, n = on.length + 1 := ⟨_, rfl⟩
        have hn1a : n1 ≤ 60 := by omega
        have hn1b : 0 < n1 := by omega
        have Hn1 := Lib.hid hn1
        clear hn1
        go_wp2_with (at_builtin; refine wpList_append_own _ rfl _ _ 23 rfl w1.heap.size 3 i0 (.int .i64 0) 1 8 Try.underlying23 Hi0.out Hz0.out Hz1.out Hz2.out rfl (by decide) _ _ _ rfl hown ⟨wr.heap.size, 0, none⟩ 1 1 [.int .i64 (fi : Nat)] rfl rfl (one_new _ _ _) (by intro u hu; simp at hu; subst hu; rfl) (by unfold maxLen; omega) (by omega) hB2 ?_; intro v8 w8 hown8 hg8 _; have hs8 : w1.Since w1.heap.size w8 := own_grown (H1.out.alloc Hsz.out _) hown hg8 hB2; have hw8 : w.Since w.heap.size w8 := since_join hs1 hs8; have d1 := (hw8.cell (a := ⟨b, off1 + fi * 3, none⟩) hb).trans c1; have d3 := (hw8.cell (a := ⟨b, off1 + fi * 3 + 2, none⟩) hb).trans c3; rw [← Hn1.out] at hown8; obtain ⟨g8, c8, rfl, hb8, hlt8, hn8, hc8, hcl8, hfr8⟩ := own_at hown8 (by omega); have Hcl8 := Lib.hid hcl8; have Hfr8 := Lib.hid hfr8; clear hcl8 hfr8)
        have hof8 : w8.ownsRow w1.heap.size 3 1 _ off.length (off.map natV) := own_block (own_since' H4.out ((World.Since.refl _ _).alloc (Nat.le_refl _) _)) (fun q hq => hg8.block q (by have := (H4.out.lt q hq).2; simp; omega) (fun e => H5.out q e.symm hq))
        have hl1 : (on ++ [fi]).length = n1 := by rw [List.length_append, Hn1.out]; rfl
        have hon8 : w8.ownsRow w1.heap.size 3 1 (.slice (some ⟨g8, 0, none⟩) n1 c8) (on ++ [fi]).length ((on ++ [fi]).map natV) := by
          rw [hl1, List.map_append]; exact hown8
        have hndO : ((on ++ off) ++ [fi]).Nodup := (H6.out.perm.append_right [fi]).nodup_iff.2 Hnd.out
        have hdis : ∀ x ∈ on ++ [fi], ∀ y ∈ off, x ≠ y := fun x hx y hy e => by
          subst e
          have h2 := List.nodup_append.1 hndO
          rcases List.mem_append.1 hx with h3 | h3
          · exact (List.nodup_append.1 h2.1).2.2 x h3 x hy rfl
          · exact h2.2.2 x (List.mem_append_right _ hy) x h3 rfl
        have hap8 := apart_on hon8 hof8 (by simp) H8.out hdis
        have hmem : ∀ i, i < n1 → gx (on ++ [fi]) i < js.length := fun i hi => by
          have h1 := gx_mem (l := on ++ [fi]) (i := i) (by omega)
          have hpJ := rowL_perm Hf.out
          rcases List.mem_append.1 h1 with h2 | h2
          · exact hpJ.lt _ (List.mem_of_mem_take (H6.out.perm.mem_iff.1 (List.mem_append_left _ h2)))
          · rw [List.mem_singleton.1 h2]; omega
        have hcells : ∀ i, i < n1 → w8.cell? ⟨g8, i, none⟩ = some (.int .i64 (gx (on ++ [fi]) i : Nat)) := fun i hi => by
          have h1 := gx_at (l := on ++ [fi]) (i := i) (by omega)
          refine Hcl8.out i (natV (gx (on ++ [fi]) i)) ?_
          have h2 : ((on ++ [fi]).map natV)[i]? = some (natV (gx (on ++ [fi]) i)) := by rw [List.getElem?_map, h1]; rfl
          rw [List.map_append] at h2
          exact h2
        have hlong : ∀ i, i < js.length → w8.cell? ⟨b, off1 + i * 3, none⟩ = some (.int .i64 (lg js i)) := fun i hi => by
          obtain ⟨y, hy⟩ : ∃ y, js[i]? = some y := ⟨js[i], List.getElem?_eq_getElem hi⟩
          rw [(tri_at hy).1]
          exact (hw8.cell (a := ⟨b, off1 + i * 3, none⟩) hb).trans (Hhc.out i y hy).1
        have Hmem := Lib.hid hmem
        have Hcells := Lib.hid hcells
        have Hlong := Lib.hid hlong
        have Hdis := Lib.hid hdis
        have Hap8 := Lib.hid hap8
        have Hl1 := Lib.hid hl1
        have HndO := Lib.hid hndO
        clear hmem hcells hlong hdis hap8 hl1 hndO
        go_loopg [11, 47] n1 (fun gh kv jv wr2 => ∃ (j kk m : Nat), j ≤ n1 ∧ kk < n1 ∧ gh = n1 - j ∧ kv = .int .i64 kk ∧ jv = .int .i64 j ∧ Hid (∀ i, i < j → lg js (gx (on ++ [fi]) i) ≤ lg js (gx (on ++ [fi]) kk)) ∧ wr2 = w8.drewN m)
        case atStart => exact ⟨0, 0, 0, Nat.zero_le _, hn1b, rfl, rfl, rfl, Lib.hid (fun i hi => absurd hi (by omega)), rfl⟩
        case round =>
          obtain ⟨j, kk, m, hj, hkk, rfl, rfl, rfl, hmost, rfl⟩ := hrel
          have hkkz : (kk : Int) < (n1 : Int) := by omega
          have e2 := Hcells.out kk hkk
          have f2 := Hlong.out _ (Hmem.out kk hkk)
          have z2 : ((gx (on ++ [fi]) kk : Nat) : Int) < (js.length : Int) := by have := Hmem.out kk hkk; omega
          by_cases hjl : j < n1
          · have hjz : (j : Int) < (n1 : Int) := by omega
            have e1 := Hcells.out j hjl
            have f1 := Hlong.out _ (Hmem.out j hjl)
            have z1 : ((gx (on ++ [fi]) j : Nat) : Int) < (js.length : Int) := by have := Hmem.out j hjl; omega
            by_cases hgt : lg js (gx (on ++ [fi]) kk) < lg js (gx (on ++ [fi]) j)
            · go_wp2
              go_quiet (fail)
              go_wp2
              go_roundg (n1 - (j + 1))
              case measure => go_light; omega
              case rel =>
                go_light
                refine ⟨j + 1, j, _, by omega, hjl, rfl, rfl, by go_num, Lib.hid (fun i hi => ?_), rfl⟩
                by_cases hij : i = j
                · subst hij; exact Int.le_refl _
                · exact Int.le_trans (hmost.out i (by omega)) (Int.le_of_lt hgt)
            · have hge : lg js (gx (on ++ [fi]) j) ≤ lg js (gx (on ++ [fi]) kk) := by omega
              go_wp2
              go_quiet (fail)
              go_wp2
              go_roundg (n1 - (j + 1))
              case measure => go_light; omega
              case rel =>
                go_light
                refine ⟨j + 1, kk, _, by omega, hkk, rfl, rfl, by go_num, Lib.hid (fun i hi => ?_), rfl⟩
                by_cases hij : i = j
                · subst hij; exact hge
                · exact hmost.out i (by omega)
          · obtain rfl : n1 = j := by omega
            have hlk := (task_bd HO.out (gx (on ++ [fi]) kk)).1
            obtain ⟨q1, q2⟩ := hlk
            have q3 : 0 ≤ now + y1 - lg js (gx (on ++ [fi]) kk) := by
              have h1 := sumI_sub (p := lg js) (fun i => (task_bd HO.out i).1.1) [gx (on ++ [fi]) kk] (on ++ [fi]) (by simp) (fun x hx => by rw [List.mem_singleton.1 hx]; exact gx_mem (by rw [Hl1.out]; exact hkk))
              rw [sumI_append, sumI_cons, sumI_cons, Hlg.out, ← H7.out] at h1
              simp [sumI] at h1
              omega
            obtain ⟨b2, hb2a, hb2b, hpick, hb2c⟩ := own_pick hof8 (by have := hs8.size; omega) (fun h => H8.out (List.length_eq_zero_iff.1 h))
            have Hb2c := Lib.hid hb2c
            have Hpick := Lib.hid hpick
            obtain ⟨fx, hfx⟩ : ∃ z, z = gx (on ++ [fi]) kk := ⟨_, rfl⟩
            rw [← hfx] at e2 f2 z2 q1 q2 q3
            have Hfx := Lib.hid hfx
            clear hb2c hpick hfx
            have hownB : ((w8.alloc (Obj.cells #[Value.int .i64 (fx : Nat)] 3)).drewN m).ownsRow b2 3 1 _ off.length (off.map natV) := own_since' Hpick.out (since_drewN ((World.Since.refl _ _).alloc (Nat.le_refl _) _) m)
            have hB3 : b2 ≤ ((w8.alloc (Obj.cells #[Value.int .i64 (fx : Nat)] 3)).drewN m).heap.size := by simp; omega
            go_wp2_with (at_builtin; refine wpList_append_own _ rfl _ _ 23 rfl b2 3 i0 (.int .i64 0) 1 8 Try.underlying23 Hi0.out Hz0.out Hz1.out Hz2.out rfl (by decide) _ _ _ rfl hownB ⟨w8.heap.size, 0, none⟩ 1 1 [.int .i64 (fx : Nat)] rfl rfl (fun j u hu => one_new w8 _ _ j u hu) (by intro u hu; simp at hu; subst hu; rfl) (by unfold maxLen; omega) (by omega) hB3 ?_; intro v9 w9 hown9 hg9 _)
            have hg9' : ((w8.alloc (Obj.cells #[Value.int .i64 (fx : Nat)] 3)).drewN m).grownBy w9 u7.ownBlock := hg9
            clear hg9
            have hgx : ∀ q, q < w8.heap.size → u7.ownBlock ≠ some q → w9.heap[q]? = ((w8.alloc (Obj.cells #[Value.int .i64 (fx : Nat)] 3)).drewN m).heap[q]? := fun q h1 h2 => hg9'.block q (by simp; omega) (fun e => h2 e.symm)
            have hs9 : w1.Since w1.heap.size w9 := own_grown (since_drewN (hs8.alloc hs8.size _) m) (own_base hownB hb2a) hg9' (by have := hs8.size; simp; omega)
            have hon9 : w9.ownsRow w1.heap.size 3 1 (.slice (some ⟨g8, 0, none⟩) n1 c8) (on ++ [fi]).length ((on ++ [fi]).map natV) :=
              own_block (own_since' hon8 (since_drewN ((World.Since.refl _ _).alloc (Nat.le_refl _) (Obj.cells #[Value.int .i64 (fx : Nat)] 3)) m)) (fun q hq => hgx q (hon8.lt q hq).2 (Hap8.out q hq))
            have hap9 : ∀ q, (Value.slice (some ⟨g8, 0, none⟩) n1 c8).ownBlock = some q → v9.ownBlock ≠ some q := by
              cases ho : off with
              | nil =>
                intro q hq hq'
                have h1 := (hown9.lt q hq').1
                have h2 := (hon8.lt q hq).2
                have h3 := Hb2c.out (by rw [ho]; rfl)
                omega
              | cons z o =>
                obtain ⟨x, xs, hxx⟩ := List.exists_cons_of_ne_nil (show on ++ [fi] ≠ [] by simp)
                refine own_apartC hon9 (own_base hown9 hb2a) (x := natV x) (y := natV z) (by rw [hxx]; rfl) (by rw [ho]; rfl) (fun e => ?_)
                have := Hdis.out x (by rw [hxx]; simp) z (by rw [ho]; simp)
                unfold natV at e
                injection e with _ e
                omega
            obtain ⟨g', c', f9, hv9, _, hc9, _, hr9, hf9⟩ := own_rowIs hon9 (by simp)
            obtain ⟨e1', e2', e3'⟩ : g' = g8 ∧ n1 = (on ++ [fi]).length ∧ c' = c8 := by
              injection hv9 with h1 h2 h3
              injection h1 with h1
              injection h1 with h1
              exact ⟨h1.symm, h2, h3.symm⟩
            subst e1' e3'
            have D := Delete_any g' c' c' kk f9 (ints (on ++ [fi])) w9 hr9 (fun i x hx => by
              obtain ⟨h1, h2⟩ := List.getElem?_eq_some_iff.1 hx
              rw [ints_len] at h1
              have h3 := hf9 i (natV (gx (on ++ [fi]) i)) (by rw [List.getElem?_map, gx_at h1]; rfl)
              rw [h3]
              unfold natV
              unfold ints at hx
              rw [List.getElem?_map, gx_at h1] at hx
              injection hx with hx
              rw [← hx]) (by rw [ints_len]; exact hc9) rfl (by unfold maxLen at hc8; omega) (by rw [ints_len, ← e2']; exact hkk)
            rw [ints_take, ints_len, ← e2'] at D
            obtain ⟨on2, hon2⟩ : ∃ z, z = (on ++ [fi]).take kk ++ (on ++ [fi]).drop (kk + 1) := ⟨_, rfl⟩
            rw [← hon2] at D
            have hsplit := gx_split (l := on ++ [fi]) (i := kk) (by rw [← e2']; exact hkk)
            rw [← Hfx.out] at hsplit
            have hsum2 : sumI (lg js) on2 = now + y1 - lg js fx := by
              have h1 : sumI (lg js) (on ++ [fi]) = now + y1 := by rw [sumI_append, sumI_cons, Hlg.out, ← H7.out]; simp [sumI]
              rw [hsplit, sumI_append, sumI_cons] at h1
              rw [hon2, sumI_append]
              omega
            have hst2 : MooreSt (lg js) (du js) ((rowL js.length f).take (k + 1)) on2 (off ++ [fx]) := by
              have hpJ := rowL_perm Hf.out
              have hsrt := (rowL_sorted Hf.out).sublist (List.take_sublist (k + 1) _)
              rw [rowL_take hkl, ← Hfi.out] at hsrt ⊢
              have hmo := hmost.out
              rw [← Hfx.out] at hmo
              rw [hon2]
              refine moore_drop (fun i => (task_bd HO.out i).1.1) H6.out Hnd.out (fun y hy => jack_le ((List.pairwise_append.1 hsrt).2.2 y hy fi (by simp))) (by rw [Hdu.out, Hlg.out, ← H7.out]; exact hlate) hsplit (fun x hx => ?_)
              obtain ⟨i, hi, rfl⟩ := List.getElem_of_mem hx
              have h1 := hmo i (by omega)
              have h2 := gx_at hi
              rw [List.getElem?_eq_getElem hi] at h2
              injection h2 with h2
              rw [← h2] at h1
              exact h1
            have hlen2 : on2.length ≤ c' := by
              have h1 := congrArg List.length hon2
              have h2 := congrArg List.length hsplit
              simp only [List.length_append, List.length_cons] at h1 h2 e2'
              omega
            have HD := Lib.hid D
            have Hon2 := Lib.hid hon2
            have Hsum2 := Lib.hid hsum2
            have Hst2 := Lib.hid hst2
            have Hap9 := Lib.hid hap9
            have Hs9 := Lib.hid hs9
            have Hown9 := Lib.hid (own_base hown9 hb2a)
            clear D hon2 hsum2 hst2 hap9 hs9 hown9 hon9 hgx hg9' hr9 hf9 hv9 hsplit e2'
            refine HD.out.mono ?_
            rintro e w10 ⟨ho10, rfl, f10, hr10, hf10⟩
            have Ho10 := Lib.hid ho10
            have Hr10 := Lib.hid hr10
            have Hf10 := Lib.hid hf10
            clear ho10 hr10 hf10
            rw [ints_len]
            go_wp2
            go_roundg (js.length - (k + 1))
            case measure => go_light; omega
            case rel =>
              go_light
              have hs10 := Ho10.out.since Hs9.out hb8
              refine ⟨k + 1, on2, off ++ [fx], now + y1 - lg js fx, by omega, rfl, by go_num, rfl, Lib.hid ⟨hs10, hs10.size, ?_, ?_, ?_, Hst2.out, Hsum2.out.symm, fun h => absurd h (by simp)⟩⟩
              · refine own_ofRow Hr10.out hb8 hlen2 hc8 (by simp) (fun j x hx => ?_)
                rw [List.getElem?_map] at hx
                cases h1 : on2[j]? with
                | none => rw [h1] at hx; cases hx
                | some y =>
                  rw [h1] at hx
                  injection hx with hx
                  rw [← hx]
                  exact Hf10.out j y (by unfold ints; rw [List.getElem?_map, h1]; rfl)
              · have h1 := own_only Hown9.out Ho10.out (Hap9.out _ rfl)
                rw [List.length_append, List.map_append]
                exact h1
              · intro q hq
                exact Hap9.out q hq
    · obtain rfl : js.length = k := by omega
      obtain ⟨I1, I2, I3, I4, I5, I6, I7, I8⟩ := hI.out
      have hl : (rowL js.length f).length = js.length := by unfold rowL seg; simp
      rw [List.take_of_length_le (by omega)] at I6
      have hlen : on.length + off.length = js.length := by
        have := I6.perm.length_eq
        rw [List.length_append, hl] at this
        exact this
      have hbase : w.heap.size ≤ w1.heap.size := hs1.size
      have hsF : w.Since w.heap.size wr := since_join hs1 I1
      obtain ⟨i0, hi0, hz0, hz1, hz2⟩ := info_parts info_int
      have Hi0 := Lib.hid hi0
      have Hz0 := Lib.hid hz0
      have Hz1 := Lib.hid hz1
      have Hz2 := Lib.hid hz2
      have H6 := Lib.hid I6
      have HI := Lib.hid I1
      by_cases ho : off = []
      · obtain rfl := I8 ho
        subst ho
        simp at hlen
        have Hl := Lib.hid hlen
        obtain ⟨A1, cap1, rfl, hc1, hc2⟩ := own_form I3
        have Hown := Lib.hid (own_ints (ys := ints on) (by rw [show (ints on).map (Value.int .i64) = on.map natV by unfold ints natV; rw [List.map_map]; rfl]; exact I3) rfl)
        clear hi0 hz0 hz1 hz2 I1 I2 I3 I4 I5 I6 I7 I8 hlen hrow
        cases A1 with
        | none =>
          go_wp2
          go_ret2
          exact ⟨f, Hf.out, hsF, on, [], _, cap1, by rw [← Hl.out]; rfl, H6.out, by rw [List.append_nil]; exact Hown.out⟩
        | some a1 =>
          go_wp2
          go_ret2
          exact ⟨f, Hf.out, hsF, on, [], _, cap1, by rw [← Hl.out]; rfl, H6.out, by rw [List.append_nil]; exact Hown.out⟩
      · have hpos : 0 < off.length := List.length_pos_iff.2 ho
        obtain ⟨g2, cap2, rfl, hg2, _, _, _, hc, _⟩ := own_at I4 hpos
        have hcell := Lib.hid hc
        have hown := I3
        have hone : ∀ u ∈ off.map natV, u.oneCell' = true := fun u hu => by
          obtain ⟨x, _, rfl⟩ := List.mem_map.1 hu
          rfl
        have Hone := Lib.hid hone
        have Hl := Lib.hid hlen
        have hsz := I2
        have HI3 := Lib.hid I3
        clear hi0 hz0 hz1 hz2 I1 I2 I3 I4 I5 I6 I7 I8 hrow hc hone ho
        go_wp2_with (at_builtin; refine wpList_append_own _ rfl _ _ 23 rfl w1.heap.size 3 i0 (.int .i64 0) 1 8 Try.underlying23 Hi0.out Hz0.out Hz1.out Hz2.out rfl (by decide) _ _ _ rfl hown ⟨g2, 0, none⟩ off.length cap2 (off.map natV) rfl (by simp) (fun j u hu => by rw [Addr.add_lit, Nat.zero_add]; exact hcell.out j u hu) Hone.out (by unfold maxLen; omega) (by omega) hsz ?_; intro v8 w8 hown8 hg8 _)
        have hs8 : w1.Since w1.heap.size w8 := own_grown HI.out HI3.out hg8 hsz
        have hown8' : w8.ownsRow w1.heap.size 3 1 v8 js.length ((ints (on ++ off)).map (Value.int .i64)) := by
          rw [← Hl.out, show (ints (on ++ off)).map (Value.int .i64) = on.map natV ++ off.map natV by unfold ints natV; rw [List.map_map, List.map_append]; rfl]
          exact hown8
        obtain ⟨A1, cap1, rfl, _, _⟩ := own_form hown8'
        have hI8 := own_ints hown8' rfl
        clear hown8 hown
        go_wp2
        go_ret2
        exact ⟨f, Hf.out, since_join hs1 hs8, on, off, _, cap1, rfl, H6.out, hI8⟩
end Go.Proofs.Ytimbkogdlmkdgaa
