/- shop: List. -/
import Derived.Test.YtjndmehhdgiphaaW16
import Derived.Deep.DeepCutAuto
import Derived.Deep.CutBlock
import Derived.Deep.RegionHeld3
namespace Go.Proofs.Ytjndmehhdgiphaa
open Go.RowKit HeapM GrahM McM PermM

theorem since_grow {w W w' : World} {B : Nat} {v : Value} (h : w.Since B W) (hg : W.grownBy w' v.ownBlock) (hv : ∀ k, v.ownBlock = some k → B ≤ k) (hB : B ≤ W.heap.size) : w.Since B w' := h.grown hg hB hv
theorem heap_least {hl : List Pt} (h : Heap ltS p0 hl.length hl) {a : Pt} (ha : a ∈ hl) : (hl.getD 0 p0).1 ≤ a.1 := by
  obtain ⟨j, hj⟩ := List.getElem?_of_mem ha
  have hjl := (List.getElem?_eq_some_iff.1 hj).1
  have := heap_min ltS_ord h j hjl
  rw [show hl.getD j p0 = a by rw [List.getD_eq_getElem?_getD, hj]; rfl] at this
  by_cases hlt : a.1 < (hl.getD 0 p0).1
  · have h2 : ltS a (hl.getD 0 p0) = true := ltS_iff.2 (.inl hlt)
    rw [this] at h2; cases h2
  · omega
theorem wrapS (n : Int) (h0 : 0 ≤ n) (h1 : n < 9223372036854775808) : IntKind.i64.wrap n = n := by
  simp [IntKind.wrap, IntKind.bits, IntKind.signed]
  omega
theorem not_mem_take {r : List Nat} (hn : r.Nodup) {k x : Nat} (h : r[k]? = some x) : x ∉ r.take k := fun hm => by
  obtain ⟨i, hi⟩ := List.getElem?_of_mem hm
  have hik : i < k := by have := (List.getElem?_eq_some_iff.1 hi).1; rw [List.length_take] at this; omega
  rw [List.getElem?_take, if_pos hik] at hi
  obtain ⟨a1, a2⟩ := List.getElem?_eq_some_iff.1 hi
  obtain ⟨b1, b2⟩ := List.getElem?_eq_some_iff.1 h
  exact List.pairwise_iff_getElem.1 (List.nodup_iff_pairwise_ne.1 hn) i k a1 b1 hik (a2.trans b2.symm)
set_option maxHeartbeats 16000000 in
set_option maxRecDepth 100000 in
theorem List_ok {A R : Option Addr} {cap c : Nat} {l : List Int} {r : List Nat} {M : Nat} {w : World} (h : IntsAt w A l) (t : LensOk l (M : Int)) (hR : IntsAt w R (ints r)) (hp : IsPerm l.length r) :
    Calls Try.prog 14 #[.slice A l.length cap, .int .i64 (M : Int), .slice R l.length c] w (ListPost l M r w) := by
  have hfew := t.few
  have hlo := t.lo
  have hhi := t.hi
  have C1 := Lib.hid (lengths_ok (cap := cap) h t)
  have HI := Lib.hid h
  have HT := Lib.hid t
  have HRI := Lib.hid hR
  have HP := Lib.hid hp
  have C2 := Lib.hid (Order_ok (cap := c) (n := l.length) (by omega) hR hp)
  obtain ⟨i0, hi0, hz0, hz1, hz2⟩ := info_parts infoS
  have Hi0 := Lib.hid hi0
  have Hz0 := Lib.hid hz0
  have Hz1 := Lib.hid hz1
  have Hz2 := Lib.hid hz2
  clear hi0 hz0 hz1 hz2 h t hR hp
  go_enter Try.func14, Try.ntmps14
  go_wp2_with fail
  refine C1.out.mono ?_
  rintro e w1 ⟨rfl, rfl⟩
  go_wp2_with fail
  refine C2.out.mono ?_
  rintro e w2 ⟨rfl, hs2⟩
  have S2 := Lib.hid hs2
  clear hs2 C1 C2
  obtain ⟨p, hpz⟩ : ∃ p, p = w2.heap.size := ⟨_, rfl⟩
  have Hp0 : Hid (w.heap.size ≤ p) := Lib.hid (by rw [hpz]; exact S2.out.size)
  have hst : LW w (w2.alloc (.cells #[.slice none 0 0] 54)) (p + 1) p (.slice none 0 0) (mkL 0) (.slice none 0 0) [] :=
    ⟨S2.out.alloc S2.out.size _, Hp0.out, Nat.lt_succ_self _, by simp; omega,
      ⟨by rw [World.cell?_alloc_at _ _ _ _ hpz]; rfl, by rw [hpz]; simp, World.ownsRow_nil _ _ _ _, by simp [Value.ownBlock]⟩, World.ownsRow_nil _ _ _ _⟩
  have HST := Lib.hid hst
  clear hst
  go_upto_block 8 with fail
  rw [← hpz]
  clear hpz
  generalize w2.alloc (.cells #[.slice none 0 0] 54) = w3 at *
  go_wp2
  go_loopg [32] M (fun gh iv wr => ∃ (k : Nat) (v : Value), k ≤ M ∧ gh = M - k ∧ iv = .int .i64 (k : Int) ∧ Hid (LW w wr (p + 1) p v (mkL k) (.slice none 0 0) []))
  case atStart => exact ⟨0, _, Nat.zero_le _, rfl, rfl, HST⟩
  case round =>
    clear HST
    obtain ⟨k, v, hk, rfl, rfl, hW⟩ := hrel
    by_cases hkM : k < M
    · have hkz : (k : Int) < (M : Int) := by omega
      have hc := hW.out.sp.cell
      have hpl : p < wr.heap.size := World.block_lt_of_cell? _ _ hc
      have hown := hW.out.sp.row.alloc (Obj.cells #[Value.int .i64 0, Value.int .i64 (k : Int)] 55)
      have hB2 : p + 1 ≤ (wr.alloc (Obj.cells #[Value.int .i64 0, Value.int .i64 (k : Int)] 55)).heap.size := by have := hW.out.base; simp; omega
      have hnew : ∀ (j : Nat) (u : Value), [Value.int .i64 0, Value.int .i64 (k : Int)][j]? = some u → (wr.alloc (Obj.cells #[Value.int .i64 0, Value.int .i64 (k : Int)] 55)).cell? ((⟨wr.heap.size, 0, none⟩ : Addr).add j) = some u := fun j u hu => by
        rw [show (⟨wr.heap.size, 0, none⟩ : Addr).add j = ⟨wr.heap.size, j, none⟩ by unfold Addr.add; split <;> simp_all, World.cell?_alloc_at _ _ _ _ rfl]
        match j with
        | 0 => simpa using hu
        | 1 => simpa using hu
        | j + 2 => simp at hu
      have Hnew := Lib.hid hnew
      have hk20 : (mkL k).length + 1 ≤ 1000 := by rw [mkL_len]; omega
      have hgC : ∀ w8 : World, (wr.alloc (Obj.cells #[Value.int .i64 0, Value.int .i64 (k : Int)] 55)).grownBy w8 v.ownBlock → w8.cell? ⟨p, 0, none⟩ = some v ∧ w8.frozen? ⟨p, 0, none⟩ = false := fun w8 hg => by
        have hb : w8.heap[p]? = wr.heap[p]? := by
          rw [hg.block p (by simp; omega) (fun e => hW.out.sp.ne e.symm)]
          exact ((World.Since.refl wr.heap.size wr).alloc (Nat.le_refl _) _).block p hpl
        exact ⟨by rw [World.cell?_of_block (w := wr) (a := ⟨p, 0, none⟩) hb]; exact hW.out.sp.cell, by rw [World.frozen?_of_block (w := wr) (a := ⟨p, 0, none⟩) hb]; exact hW.out.sp.fz⟩
      have HgC := Lib.hid hgC
      clear hnew hgC
      go_wp2_with (at_builtin; refine wpList_append_lies _ rfl _ _ 54 rfl (p + 1) 55 i0 _ 2 16 Try.underlying54 Hi0.out Hz0.out Hz1.out Hz2.out rfl (by decide) v _ _ rfl hown ⟨wr.heap.size, 0, none⟩ 1 1 [Value.int .i64 0, .int .i64 (k : Int)] rfl rfl Hnew.out (by intro u hu; simp at hu; rcases hu with rfl | rfl <;> rfl) (by decide) (by unfold maxLen; omega) (by omega) hB2 _ rfl ?_; intro g8 c8 w8 h1 h2 h3 h4; have d12 := HgC.out _ h2; obtain ⟨d1, d2⟩ := d12; have HG8 := Lib.hid h2; have HO8 := Lib.hid h1; have HV8 := Lib.hid h3; clear h1 h2 h3 h4)
      have hsp := sp_grown (l8 := mkL (k + 1)) (v8 := .slice (some ⟨g8, 0, none⟩) ((mkL k).length + 1) c8) hW.out.sp ((World.Since.refl wr.heap.size wr).alloc (Nat.le_refl _) _) HG8.out (HV8.out.imp id (fun e => by rw [← e]; rfl)) (by rw [mkL_snoc, List.length_append, ptsV_snoc]; exact HO8.out)
      have HW2 := Lib.hid (hW.out.keeps hsp.2 hsp.1)
      clear hsp hown hB2 d1 d2
      go_wp2
      go_roundg (M - (k + 1))
      case measure => go_light; omega
      case rel => go_light; exact ⟨k + 1, _, by omega, rfl, by go_num, HW2⟩
    · obtain rfl : M = k := by omega
      have C3 := Lib.hid (SInit_any hW.out.sp (mkL_heap M) hW.out.base (by rw [mkL_len]; omega))
      go_wp2_with fail
      refine C3.out.mono ?_
      rintro e w4 ⟨rfl, v4, hl4, hS4, hP4, hH4, hK4⟩
      have HW4 := Lib.hid (hW.out.keeps hK4 hS4)
      have HH4 := Lib.hid hH4
      have HG4 : Hid (GSt (pL l) M [] (fun _ => 0) (fun _ => 0) 0 hl4 []) := Lib.hid (g_start (pL l) M hP4)
      clear C3 hS4 hP4 hH4 hK4 hW
      obtain ⟨j0, hj0, hy0, hy1, hy2⟩ := info_parts info_quad
      have Hj0 := Lib.hid hj0
      have Hy0 := Lib.hid hy0
      have Hy1 := Lib.hid hy1
      have Hy2 := Lib.hid hy2
      clear hj0 hy0 hy1 hy2
      go_wp2
      go_loopg [13, 14, 45] l.length (fun gh ev ov iv wr => ∃ (k : Nat) (E : Int) (mu s : Nat → Int) (hl : List Pt) (ps : List Quad) (v : Value), k ≤ l.length ∧ gh = l.length - k ∧ iv = .int .i64 (k : Int) ∧ ev = .int .i64 E ∧ Hid (LW w wr (p + 1) p v hl ov ps) ∧ Hid (Heap ltS p0 hl.length hl) ∧ Hid (GSt (pL l) M (r.take k) mu s E hl ps) ∧ Hid (0 ≤ E ∧ E ≤ 1000000000 * (k : Int)))
      case atStart => exact ⟨0, 0, _, _, _, _, _, Nat.zero_le _, rfl, rfl, rfl, HW4, HH4, HG4, Lib.hid (by omega)⟩
      case round =>
        clear HW4 HH4 HG4
        obtain ⟨k, E, mu, s, hl, ps, v, hk, rfl, rfl, rfl, hW, hH, hG, hE⟩ := hrel
        by_cases hkl : k < l.length
        · have hkz : (k : Int) < (l.length : Int) := by omega
          obtain ⟨x, hx⟩ : ∃ x, r[k]? = some x := ⟨r[k]'(by rw [HP.out.len]; exact hkl), List.getElem?_eq_getElem _⟩
          have hxl : x < l.length := HP.out.lt x (List.mem_of_getElem? hx)
          have hxz : (x : Int) < (l.length : Int) := by omega
          obtain ⟨b, off, rfl, hb, hc⟩ := HRI.out k (by rw [ints_len, HP.out.len]; exact hkl)
          have d0 := hc k (x : Int) (by unfold ints; rw [List.getElem?_map, hx]; rfl)
          rw [← hW.out.since.cell (show b < w.heap.size from hb)] at d0
          obtain ⟨b2, off2, rfl, hb2, hc2⟩ := HI.out x hxl
          have d1 := hc2 x (pL l x) (by unfold pL; rw [List.getD_eq_getElem?_getD, List.getElem?_eq_getElem hxl]; rfl)
          have Hd1 := Lib.hid d1
          have hq := getD_bd (B := 1000000000) (by omega) HT.out.ok x
          have hM : hl.length = M := hG.out.hlen
          have hne := not_mem_take HP.out.nodup hx
          have hb1 : ∀ a ∈ hl, (hl.getD 0 p0).1 ≤ a.1 := fun a ha => heap_least hH.out ha
          have C4 := SPop_any hW.out.sp hH.out hW.out.base (by omega) (by omega)
          have hmem : hl.getD 0 p0 ∈ hl := by rw [List.getD_eq_getElem?_getD, List.getElem?_eq_getElem (by omega)]; exact List.getElem_mem _
          have hat := hG.out.mem hmem
          have hgb := gl_bd HT.out.ok mu (hl.getD 0 p0).2 (r.take k)
          rw [List.length_take, HP.out.len, Nat.min_eq_left hk] at hgb
          have hta := fun W => taS (hl.getD 0 p0) W
          obtain ⟨⟨ta, cm⟩, htc⟩ : ∃ a, a = hl.getD 0 p0 := ⟨_, rfl⟩
          rw [← htc] at C4 hat hgb hta hb1
          simp only at hat hgb hta hb1
          have hq2 : 0 ≤ pL l x ∧ pL l x ≤ 1000000000 := hq
          obtain ⟨q, hqq⟩ : ∃ q, q = pL l x := ⟨_, rfl⟩
          rw [← hqq] at hq2 Hd1
          have Hqq := Lib.hid hqq
          have HX := Lib.hid hx
          have Hne := Lib.hid hne
          have Hb1 := Lib.hid hb1
          have HC4 := Lib.hid C4
          have ht0 : 0 ≤ ta ∧ ta ≤ 1000000000 * (k : Int) := by rw [hat.2.2]; exact hgb
          have Hcm := Lib.hid hat
          clear hc hc2 hx d1 hq hne hb1 C4 hmem hat hgb htc hqq hM
          go_wp2_with fail
          refine HC4.out.mono ?_
          rintro e w5 ⟨rfl, v5, hl5, hS5, hP5, hH5, hK5⟩
          have HW5 := Lib.hid (hW.out.keeps hK5 hS5)
          have HH5 := Lib.hid hH5
          have HP5 := Lib.hid hP5
          clear HC4 hS5 hP5 hH5 hK5 hW d0
          go_upto_region 20 with fail
          have HW6 := Lib.hid (HW5.out.later ((World.Since.refl w5.heap.size w5).alloc (Nat.le_refl _) (Obj.cells #[Value.int .i64 ta, Value.int .i64 cm] 55)))
          have x0 : (w5.alloc (Obj.cells #[Value.int .i64 ta, Value.int .i64 cm] 55)).cell? ⟨w5.heap.size, 0, none⟩ = some (.int .i64 ta) := by rw [World.cell?_alloc_at _ _ _ _ rfl]; rfl
          have x1 : (w5.alloc (Obj.cells #[Value.int .i64 ta, Value.int .i64 cm] 55)).cell? ⟨w5.heap.size, 1, none⟩ = some (.int .i64 cm) := by rw [World.cell?_alloc_at _ _ _ _ rfl]; rfl
          have xf : (w5.alloc (Obj.cells #[Value.int .i64 ta, Value.int .i64 cm] 55)).frozen? ⟨w5.heap.size, 0, none⟩ = false := by simp
          have hpx : p < w5.heap.size := World.block_lt_of_cell? _ _ HW5.out.sp.cell
          have n1 : v5.ownBlock ≠ some w5.heap.size := fun e => by have := (HW5.out.sp.row.lt _ e).2; omega
          obtain ⟨A7, c7, e7, _, _⟩ := own_form HW5.out.out
          subst e7
          have n2 : (Value.slice A7 ps.length c7).ownBlock ≠ some w5.heap.size := fun e => by have := (HW5.out.out.lt _ e).2; omega
          have hsz : (w5.alloc (Obj.cells #[Value.int .i64 ta, Value.int .i64 cm] 55)).heap.size = w5.heap.size + 1 := by simp
          generalize w5.alloc (Obj.cells #[Value.int .i64 ta, Value.int .i64 cm] 55) = w6 at *
          have Hpx : Hid (w.heap.size ≤ w5.heap.size) := Lib.hid HW5.out.since.size
          have Hn1 := Lib.hid n1
          have Hn2 := Lib.hid n2
          have Hpp : Hid (p ≠ w5.heap.size) := Lib.hid (by omega)
          clear HW5 n1 n2 hpx
          generalize w5.heap.size = px at *
          have d1 := Hd1.out
          rw [← HW6.out.since.cell (show b2 < w.heap.size from hb2)] at d1
          have hps : ps.length = k := by rw [hG.out.parts, List.length_map, List.length_take, HP.out.len]; omega
          have hpsb : ps.length + 1 ≤ 1000 := by omega
          have Hps := Lib.hid hps
          clear hps
          go_cut [14] (fun ov wx => ∃ g8 c8, ov = .slice (some ⟨g8, 0, none⟩) (ps.length + 1) c8 ∧ Hid (LW w wx (p + 1) p v5 hl5 ov (ps ++ [(cm, (x : Int), ta, ta + q)])) ∧ Hid (wx.cell? ⟨px, 0, none⟩ = some (.int .i64 ta) ∧ wx.cell? ⟨px, 1, none⟩ = some (.int .i64 cm) ∧ wx.frozen? ⟨px, 0, none⟩ = false ∧ ov.ownBlock ≠ some px))
          case first => as_aux_lemma =>
            obtain ⟨q3, q4⟩ := hq2
            obtain ⟨t3, t4⟩ := ht0
            have t5 : ta ≤ 60000000000 := by omega
            have oA := HW6.out.out.alloc (.cells #[.int .i64 cm, .int .i64 (x : Int), .int .i64 ta, .int .i64 (ta + q)] 49)
            have hB6 := HW6.out.base
            have hnb2 : b2 < p + 1 := by have := HW6.out.low; omega
            have nb2 : (Value.slice A7 ps.length c7).ownBlock ≠ some b2 := own_below HW6.out.out hnb2
            have hb2' : b2 < w6.heap.size := by omega
            have hpx' : px < w6.heap.size := by omega
            have nb1 := Hn2.out
            have HWr : Hid (IntKind.i64.wrap (ta + q) = ta + q) := Lib.hid (wrapS _ (by omega) (by omega))
            go_region_held3 (fun w' => w'.cell? ⟨px, 0, none⟩ = some (.int .i64 ta) ∧ w'.cell? ⟨px, 1, none⟩ = some (.int .i64 cm) ∧ w'.cell? ⟨b2, off2 + x, none⟩ = some (.int .i64 q))
              (first
                | go_keep
                | (go_split_ands
                   refine ⟨?_, ?_, ?_⟩
                   · (rw [hgrow.cell_far _ (by simp; omega) (Ne.symm nb1)]; assumption)
                   · (rw [hgrow.cell_far _ (by simp; omega) (Ne.symm nb1)]; assumption)
                   · (rw [hgrow.cell_far _ (by simp; omega) (Ne.symm nb2)]; assumption)))
              ((refine step_append_lies _ (by rfl) _ _ _ (by rfl) (p + 1) 49 j0 _ 4 32 Try.underlying33 Hj0.out Hy0.out Hy1.out Hy2.out rfl (by omega) (.slice A7 ps.length c7) ps.length (quadsV ps) (by rfl) ((HW6.out.out.alloc _).drew)
                  ⟨w6.heap.size, 0, none⟩ 1 1 [.int .i64 cm, .int .i64 (x : Int), .int .i64 ta, .int .i64 (IntKind.i64.wrap (ta + q))] (by first | rfl | simp [Act.eval]) (by rfl) (World.news_of_block (cs := #[.int .i64 cm, .int .i64 (x : Int), .int .i64 ta, .int .i64 (IntKind.i64.wrap (ta + q))]) (t := 49) (fr := (0, 0)) (heap_alloc_new w6 _)) (by simp [Value.oneCell'])
                  (by omega) (by unfold maxLen; omega) (by omega) (by simp; omega) (w6.heap.size + 1) (by simp) ?_; intro g8 c8 w8 hown8 hgrow hat hlt))
            rw [HWr.out] at hown8
            have hg8 : (w6.alloc (.cells #[.int .i64 cm, .int .i64 (x : Int), .int .i64 ta, .int .i64 (IntKind.i64.wrap (ta + q))] 49)).grownBy w8 (Value.slice A7 ps.length c7).ownBlock := ⟨hgrow.os, hgrow.tape, hgrow.output, hgrow.size, hgrow.block⟩
            rw [HWr.out] at hg8
            have HS8 := Lib.hid (HW6.out.grow (ps' := ps ++ [(cm, (x : Int), ta, ta + q)]) ((World.Since.refl _ _).alloc (Nat.le_refl _) _) hg8 (by rw [List.length_append, quadsV_snoc]; exact hown8))
            have hb : w8.heap[px]? = w6.heap[px]? := by
              rw [hg8.block px (by simp; omega) (fun e => Hn2.out e.symm)]
              exact ((World.Since.refl w6.heap.size w6).alloc (Nat.le_refl _) _).block px (by omega)
            have HC8 : Hid (w8.cell? ⟨px, 0, none⟩ = some (.int .i64 ta) ∧ w8.cell? ⟨px, 1, none⟩ = some (.int .i64 cm) ∧ w8.frozen? ⟨px, 0, none⟩ = false ∧ (Value.slice (some ⟨g8, 0, none⟩) (ps.length + 1) c8).ownBlock ≠ some px) := Lib.hid (by
              refine ⟨by rw [World.cell?_of_block (w := w6) (a := ⟨px, 0, none⟩) hb]; exact x0, by rw [World.cell?_of_block (w := w6) (a := ⟨px, 1, none⟩) hb]; exact x1, by rw [World.frozen?_of_block (w := w6) (a := ⟨px, 0, none⟩) hb]; exact xf, fun e => ?_⟩
              have e' : g8 = px := by simpa [Value.ownBlock] using e
              rcases hat with h2 | h2
              · exact Hn2.out (by rw [h2, e'])
              · omega)
            clear hown8 hgrow hat hlt hg8 hb oA
            go_wp2
            go_meet
            case rel => exact ⟨g8, c8, rfl, HS8, HC8⟩
          case rest =>
            obtain ⟨g8, c8, rfl, HW8, HC8⟩ := hcut
            clear x0 x1 xf hsz HW6 d1
            obtain ⟨y0, y1, yf, yne⟩ := HC8.out
            have Hyne := Lib.hid yne
            have d1 := Hd1.out
            rw [← HW8.out.since.cell (show b2 < w.heap.size from hb2)] at d1
            obtain ⟨q3, q4⟩ := hq2
            obtain ⟨t3, t4⟩ := ht0
            have t5 : ta ≤ 60000000000 := by omega
            obtain ⟨E0, E1⟩ := hE.out
            have E2 : E ≤ 60000000000 := by omega
            clear HC8 yne
            go_upto_region 21 with fail
            go_region
            all_goals
              have HW9 : Hid (LW w (wc.setCell ⟨px, 0, none⟩ (.int .i64 (ta + q))).drew (p + 1) p v5 hl5 (.slice (some ⟨g8, 0, none⟩) (ps.length + 1) c8) (ps ++ [(cm, (x : Int), ta, ta + q)])) := Lib.hid (((HW8.out.store Hpx.out Hpp.out Hn1.out Hyne.out 0 (.int .i64 (ta + q))).later ((World.Since.refl _ _).drew)))
              have z0 : (wc.setCell ⟨px, 0, none⟩ (.int .i64 (ta + q))).drew.cell? ⟨px, 0, none⟩ = some (.int .i64 (ta + q)) := World.cell?_setCell_same _ _ _ y0
              have z1 : (wc.setCell ⟨px, 0, none⟩ (.int .i64 (ta + q))).drew.cell? ⟨px, 1, none⟩ = some (.int .i64 cm) := by
                show (wc.setCell ⟨px, 0, none⟩ (.int .i64 (ta + q))).cell? ⟨px, 1, none⟩ = _
                rw [World.cell?_setCell_other _ _ _ _ (by simp)]; exact y1
              clear y0 y1 yf d1 HW8
              generalize (wc.setCell ⟨px, 0, none⟩ (.int .i64 (ta + q))).drew = w9 at *
              have C9 := Lib.hid (SPush_any HW9.out.sp HH5.out HW9.out.base (ta + q, cm) (by have := HP5.out.length_eq; have := hG.out.hlen; simp at *; omega))
              have hE2 : Hid (0 ≤ max E (ta + q) ∧ max E (ta + q) ≤ 1000000000 * ((k + 1 : Nat) : Int)) := Lib.hid (by omega)
              by_cases hlt : E < ta + q
              · have hmx : Hid (max E (ta + q) = ta + q) := Lib.hid (by omega)
                go_wp2_with fail
                refine C9.out.mono ?_
                rintro e wA ⟨rfl, vA, hlA, hSA, hPA, hHA, hKA⟩
                have HWA := Lib.hid (HW9.out.keeps hKA hSA)
                have HHA := Lib.hid hHA
                have HGA := Lib.hid (g_next (hl2 := hlA) hG.out Hne.out HP5.out Hb1.out (by rw [← Hqq.out]; exact hPA))
                clear C9 hSA hPA hHA hKA HW9 z0 z1
                go_wp2
                go_roundg (l.length - (k + 1))
                case measure => go_light; omega
                case rel =>
                  go_light
                  refine ⟨k + 1, max E (ta + q), (fun y => if y = x then cm else mu y), (fun y => if y = x then gl (pL l) mu (r.take k) cm else s y), hlA, ps ++ [(cm, (x : Int), ta, ta + q)], vA, by omega, rfl, by go_num, by rw [hmx.out], HWA, HHA, Lib.hid ?_, hE2⟩
                  rw [take_next HX.out]
                  have := HGA.out
                  rw [← Hqq.out] at this
                  exact this
              · have hlt' : ta + q ≤ E := by omega
                have hmx : Hid (max E (ta + q) = E) := Lib.hid (by omega)
                clear hlt
                go_wp2_with fail
                refine C9.out.mono ?_
                rintro e wA ⟨rfl, vA, hlA, hSA, hPA, hHA, hKA⟩
                have HWA := Lib.hid (HW9.out.keeps hKA hSA)
                have HHA := Lib.hid hHA
                have HGA := Lib.hid (g_next (hl2 := hlA) hG.out Hne.out HP5.out Hb1.out (by rw [← Hqq.out]; exact hPA))
                clear C9 hSA hPA hHA hKA HW9 z0 z1
                go_wp2
                go_roundg (l.length - (k + 1))
                case measure => go_light; omega
                case rel =>
                  go_light
                  refine ⟨k + 1, max E (ta + q), (fun y => if y = x then cm else mu y), (fun y => if y = x then gl (pL l) mu (r.take k) cm else s y), hlA, ps ++ [(cm, (x : Int), ta, ta + q)], vA, by omega, rfl, by go_num, by rw [hmx.out], HWA, HHA, Lib.hid ?_, hE2⟩
                  rw [take_next HX.out]
                  have := HGA.out
                  rw [← Hqq.out] at this
                  exact this
        · obtain rfl : l.length = k := by omega
          have hG2 := hG.out
          rw [List.take_of_length_le (by rw [HP.out.len]; omega)] at hG2
          obtain ⟨A9, c9, e9, _, _⟩ := own_form hW.out.out
          subst e9
          have HQ := Lib.hid (own_quads hW.out.out rfl)
          have HS := Lib.hid hW.out.since
          have HG2 := Lib.hid hG2
          clear hG2 hW
          go_wp2
          go_ret3
          exact ⟨HS.out, E, ps, A9, c9, rfl, ⟨mu, s, hl, HG2.out⟩, HQ.out⟩
end Go.Proofs.Ytjndmehhdgiphaa
