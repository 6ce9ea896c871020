/- shop: fits answers true of a plan that fits. -/
import Derived.Test.YtjndmehhdgiphaaW7
namespace Go.Proofs.Ytjndmehhdgiphaa
open Go.RowKit PermM McM

set_option maxHeartbeats 8000000 in
set_option maxRecDepth 100000 in
theorem fits_ok {A P : Option Addr} {cap c : Nat} {l : List Int} {M E : Int} {ps : List Quad} {w : World} (h : IntsAt w A l) (hp : QuadAt w P ps) (t : FitsIn l M E ps) (hl : 0 < l.length) (hl2 : l.length ≤ 60) (hps : ps.length ≤ 60000000000) (hE0 : 0 ≤ E) (hE : E ≤ 60000000020) :
    Calls Try.prog 12 #[.slice A l.length cap, .int .i64 M, .int .i64 E, .slice P ps.length c] w (TruePost w) := by
  have hlz : (l.length : Int) ≤ 60 := by omega
  obtain ⟨b0, off0, rfl, hb0, hc0⟩ := h 0 hl
  obtain ⟨i0, hi0, hz0, hz1, hz2⟩ := info_parts info_int
  have hown0 := own_empty w
  have hs0 : w.Since w.heap.size (w.alloc (.cells #[] 3)) := (World.Since.refl _ _).alloc (Nat.le_refl _) _
  have hx2 : ∀ j u, (l.map (Value.int .i64))[j]? = some u → (w.alloc (.cells #[] 3)).cell? ((⟨b0, off0, none⟩ : Addr).add j) = some u := fun j u hu => by
    rw [List.getElem?_map, Option.map_eq_some_iff] at hu
    obtain ⟨x, hx, rfl⟩ := hu
    rw [add_plain, World.cell?_alloc_lt _ _ _ (show b0 < w.heap.size from hb0)]
    exact hc0 j x hx
  have Hx2 := Lib.hid hx2
  have H1 := Lib.hid (show ∀ u ∈ l.map (Value.int .i64), u.oneCell' = true by intro u hu; obtain ⟨x, _, rfl⟩ := List.mem_map.1 hu; rfl)
  have HT := Lib.hid t
  have HP := Lib.hid hp
  clear hx2 h hc0 t hp
  go_enter Try.func12, Try.ntmps12
  go_wp2_with (at_builtin; refine wpList_append_own _ rfl _ _ 23 rfl w.heap.size 3 i0 (.int .i64 0) 1 8 Try.underlying23 hi0 hz0 hz1 hz2 rfl (by decide) _ _ _ rfl hown0 ⟨b0, off0, none⟩ l.length cap (l.map (Value.int .i64)) rfl (by simp) Hx2.out H1.out (by unfold maxLen; omega) (by omega) (by simp) ?_; intro v8 w8 hown8 hg8 _)
  have hs8 : w.Since w.heap.size w8 := own_grown hs0 hown0 hg8 (by simp)
  rw [Nat.zero_add, List.nil_append] at hown8
  obtain ⟨g, cg, f0, rfl, hg, hcn, _, hr8, hf0⟩ := own_rowIs hown8 hl
  have hr0 : w8.rowIs g 3 cg (leftF l ps 0 f0) := hr8.congr (fun j hj => by
    unfold leftF
    by_cases e : j < l.length
    · rw [if_pos e, hf0 j (.int .i64 (l.getD j 0)) (by rw [List.getElem?_map, List.getD_eq_getElem?_getD, List.getElem?_eq_getElem e]; rfl)]
      simp [pSum]
    · rw [if_neg e])
  clear hown0 hs0 Hx2 H1 hown8 hg8 hr8 hf0 hi0 hz0 hz1 hz2
  go_wp2
  go_loopg [10] ps.length (fun gh iv wr => ∃ k : Nat, k ≤ ps.length ∧ gh = ps.length - k ∧ iv = .int .i64 k ∧ w.Since w.heap.size wr ∧ wr.rowIs g 3 cg (leftF l ps k f0))
  case atStart => exact ⟨0, Nat.zero_le _, rfl, rfl, hs8, hr0⟩
  case round =>
    clear hs8 hr0
    obtain ⟨k, hk, rfl, rfl, hs, hr⟩ := hrel
    by_cases hkl : k < ps.length
    · have hkz : (k : Int) < (ps.length : Int) := by omega
      obtain ⟨bp, op, rfl, hbp, hcp⟩ := HP.out k hkl
      obtain ⟨x, hx⟩ : ∃ x, ps[k]? = some x := ⟨ps[k], List.getElem?_eq_getElem hkl⟩
      obtain ⟨x1, x2, x3, x4⟩ := x
      obtain ⟨q1, q2, q3, q4⟩ := hcp k _ hx
      obtain ⟨e1, e2, e3, e4, e5, e6, e7⟩ := HT.out.fits.each _ (List.mem_of_getElem? hx)
      simp only [job, fr, to'] at e1 e2 e3 e4 e5 e6 e7 q1 q2 q3 q4
      obtain ⟨j, rfl⟩ : ∃ j : Nat, x2 = (j : Int) := ⟨x2.toNat, by omega⟩
      have hjl : j < l.length := by omega
      have hjg : j < cg := by omega
      rw [← hs.cell (show bp < w.heap.size from hbp)] at q1 q2 q3 q4
      have c0 := hr.cell hjg
      have c1 := hr.frozen j
      have hlb := left_bd HT.out hjl k
      have hlb2 := left_bd HT.out hjl (k + 1)
      rw [pSum_snoc hx] at hlb2
      simp only [job, fr, to', if_true] at hlb2
      unfold leftF at c0
      rw [if_pos hjl] at c0
      have Hx := Lib.hid hx
      have Hcp := Lib.hid hcp
      have hbp2 : bp < wr.heap.size := by have := hs.size; omega
      have hgl := hr.lt
      clear hx hcp
      obtain ⟨lv, hlv⟩ : ∃ lv, lv = l.getD j 0 - pSum (ps.take k) j := ⟨_, rfl⟩
      have hlb3 : 0 ≤ lv - (x4 - x3) ∧ lv - (x4 - x3) ≤ 1000000000 := by omega
      rw [← hlv] at c0 hlb
      clear hlb2
      have Hlv := Lib.hid hlv
      clear hlv
      have d1 : decide (x1 < 0) = false := decide_eq_false (by omega)
      have d2 : decide (M ≤ x1) = false := decide_eq_false (by omega)
      have d3 : decide ((j : Int) < 0) = false := decide_eq_false (by omega)
      have d4 : decide (l.length ≤ j) = false := decide_eq_false (by omega)
      have d5 : decide (x3 < 0) = false := decide_eq_false (by omega)
      have d6 : decide (x4 < x3) = false := decide_eq_false (by omega)
      have d7 : decide (E < x4) = false := decide_eq_false (by omega)
      have r2 : ∀ u t, (wr.alloc (.cells u t)).rowIs g 3 cg (leftF l ps k f0) := fun u t => hr.alloc _
      have r3 : ∀ u t, w.Since w.heap.size (wr.alloc (.cells u t)) := fun u t => hs.alloc hs.size _
      have R2 := Lib.hid r2
      have R3 := Lib.hid r3
      have hgx : wr.heap.size ≠ g := by omega
      have hBx : w.heap.size ≤ wr.heap.size := hs.size
      have Hs := Lib.hid hs
      have Hr := Lib.hid hr
      clear r2 r3 hr hs
      go_upto_region 8 with fail
      go_cut [] (fun wx => w.Since w.heap.size wx ∧ wr.heap.size < wx.heap.size ∧ Hid (wx.rowIs g 3 cg (leftF l ps (k + 1) f0)) ∧ wx.cell? ⟨wr.heap.size, 0, none⟩ = some (.int .i64 x1) ∧ wx.cell? ⟨wr.heap.size, 1, none⟩ = some (.int .i64 (j : Int)) ∧ wx.cell? ⟨wr.heap.size, 2, none⟩ = some (.int .i64 x3) ∧ wx.cell? ⟨wr.heap.size, 3, none⟩ = some (.int .i64 x4))
      case first => as_aux_lemma =>
        go_region
        go_wp2
        go_meet
        case rel =>
          have hz : (wr.setCell ⟨g, j, none⟩ (.int .i64 (lv - (x4 - x3)))).heap.size = wr.heap.size := by simp
          have ha : ∀ i, ((wr.setCell ⟨g, j, none⟩ (.int .i64 (lv - (x4 - x3)))).alloc (Obj.cells #[Value.int .i64 x1, Value.int .i64 (j : Int), Value.int .i64 x3, Value.int .i64 x4] 49)).drew.cell? ⟨wr.heap.size, i, none⟩ = (#[Value.int .i64 x1, Value.int .i64 (j : Int), Value.int .i64 x3, Value.int .i64 x4] : Array Value)[i]? := fun i => by
            rw [World.cell?_drew, ← hz, World.cell?_alloc_at _ _ _ _ rfl]
          refine ⟨((Hs.out.setCell (show w.heap.size ≤ g from hg) _).alloc (by rw [hz]; exact hBx) _).drew, ?_, Lib.hid ((((Hr.out.set j _).alloc _).drew).congr (fun i hi => ?_)), ?_, ?_, ?_, ?_⟩
          · show wr.heap.size < (World.alloc _ _).heap.size
            simp
          · unfold leftF
            by_cases e : i = j
            · subst e
              rw [if_pos rfl, if_pos hjl, pSum_snoc Hx.out, Hlv.out]
              simp only [job, fr, to', if_true]
              congr 1; omega
            · rw [if_neg e]
              by_cases e2 : i < l.length
              · rw [if_pos e2, if_pos e2, pSum_snoc Hx.out]
                rw [if_neg (show ¬ (job (x1, (j : Int), x3, x4) = (i : Int)) by show ¬ ((j : Int) = (i : Int)); omega)]
                congr 1; omega
              · rw [if_neg e2, if_neg e2]
          · exact ha 0
          · exact ha 1
          · exact ha 2
          · exact ha 3
      case rest =>
        obtain ⟨hsx, hzx, hrx, p1, p2, p3, p4⟩ := hcut
        have hap := HT.out.fits.apart
        obtain ⟨bx, hbx⟩ : ∃ bx, bx = wr.heap.size := ⟨_, rfl⟩
        rw [← hbx] at p1 p2 p3 p4 hzx hgx hBx ⊢
        clear hbx Hs Hr R2 R3 q1 q2 q3 q4 c0 c1 hlb hlb3 Hlv hgl hbp2 hap
        obtain ⟨wq, rfl⟩ : ∃ wq, wq = wc := ⟨_, rfl⟩
        clear d1 d2 d3 d4 d5 d6 d7
        go_wp2
        go_loopg [12] k (fun gh iv wr => ∃ i : Nat, i ≤ k ∧ gh = k - i ∧ iv = .int .i64 i ∧ wq.Since wq.heap.size wr)
        case atStart => exact ⟨0, Nat.zero_le _, rfl, rfl, World.Since.refl _ _⟩
        case round =>
          obtain ⟨i, hi, rfl, rfl, hsi⟩ := hrel
          by_cases hik : i < k
          · have hikz : (i : Int) < (k : Int) := by omega
            have hipz : (i : Int) < (ps.length : Int) := by omega
            obtain ⟨y, hy⟩ : ∃ y, ps[i]? = some y := ⟨ps[i], List.getElem?_eq_getElem (by omega)⟩
            obtain ⟨y1, y2, y3, y4⟩ := y
            obtain ⟨q1, q2, q3, q4⟩ := Hcp.out i _ hy
            simp only at q1 q2 q3 q4
            have hsw := since_join hsx hsi
            rw [← hsw.cell (show bp < w.heap.size from hbp)] at q1 q2 q3 q4
            rw [← hsi.cell (show bx < wq.heap.size from hzx)] at p1 p2 p3 p4
            have hnc : ¬ clash (y1, y2, y3, y4) (x1, (j : Int), x3, x4) := by
              have h1 := List.pairwise_iff_getElem.1 HT.out.fits.apart i k (by omega) hkl hik
              obtain ⟨_, h2⟩ := List.getElem?_eq_some_iff.1 hy
              obtain ⟨_, h3⟩ := List.getElem?_eq_some_iff.1 Hx.out
              rw [h2, h3] at h1
              exact h1
            have hzy : bx < wr.heap.size := by have := hsi.size; omega
            have hpy : bp < wr.heap.size := by have := hsi.size; have := hsx.size; omega
            have Hsi := Lib.hid hsi
            have hszi := hsi.size
            clear hy hsi hsw
            unfold clash job fr to' at hnc
            simp only at hnc
            have hsA : ∀ u t, wq.Since wq.heap.size (wr.alloc (.cells u t)) := fun u t => Hsi.out.alloc Hsi.out.size _
            have HsA := Lib.hid hsA
            clear hsA
            by_cases m1 : y1 = x1
            · have b1 : (y1 == x1) = true := beq_iff_eq.2 m1
              by_cases m3 : x3 < y4
              · have m4 : x4 ≤ y3 := by
                  apply Classical.byContradiction
                  intro h
                  exact hnc ⟨.inl m1, m3, by omega⟩
                have M1 := Lib.hid m1
                clear m1 hnc
                go_wp2
                go_roundg (k - (i + 1))
                case measure => go_light; omega
                case rel => go_light; exact ⟨i + 1, by omega, rfl, by go_num, HsA.out _ _⟩
              · have m3' : y4 ≤ x3 := by omega
                have M1 := Lib.hid m1
                clear m1 hnc m3
                go_wp2
                go_roundg (k - (i + 1))
                case measure => go_light; omega
                case rel => go_light; exact ⟨i + 1, by omega, rfl, by go_num, HsA.out _ _⟩
            · have b1 : (y1 == x1) = false := beq_eq_false_iff_ne.2 m1
              by_cases m2 : y2 = (j : Int)
              · have b2 : (y2 == (j : Int)) = true := beq_iff_eq.2 m2
                by_cases m3 : x3 < y4
                · have m4 : x4 ≤ y3 := by
                    apply Classical.byContradiction
                    intro h
                    exact hnc ⟨.inr m2, m3, by omega⟩
                  have M1 := Lib.hid m1
                  have M2 := Lib.hid m2
                  clear m1 m2 hnc
                  go_wp2
                  go_roundg (k - (i + 1))
                  case measure => go_light; omega
                  case rel => go_light; exact ⟨i + 1, by omega, rfl, by go_num, HsA.out _ _⟩
                · have m3' : y4 ≤ x3 := by omega
                  have M1 := Lib.hid m1
                  have M2 := Lib.hid m2
                  clear m1 m2 hnc m3
                  go_wp2
                  go_roundg (k - (i + 1))
                  case measure => go_light; omega
                  case rel => go_light; exact ⟨i + 1, by omega, rfl, by go_num, HsA.out _ _⟩
              · have b2 : (y2 == (j : Int)) = false := beq_eq_false_iff_ne.2 m2
                have M1 := Lib.hid m1
                have M2 := Lib.hid m2
                clear m1 m2 hnc
                go_wp2
                go_roundg (k - (i + 1))
                case measure => go_light; omega
                case rel => go_light; exact ⟨i + 1, by omega, rfl, by go_num, HsA.out _ _⟩
          · obtain rfl : k = i := by omega
            go_wp2
            go_roundg (ps.length - (k + 1))
            case measure => go_light; omega
            case rel => go_light; exact ⟨k + 1, by omega, rfl, by go_num, since_join hsx hsi, hrx.out.of_block (hsi.block _ hrx.out.lt)⟩
    · obtain rfl : ps.length = k := by omega
      have hz : ∀ j, j < l.length → leftF l ps ps.length f0 j = .int .i64 0 := fun j hj => by
        unfold leftF
        rw [if_pos hj, List.take_length, HT.out.fits.full j hj]
        congr 1; omega
      have HZ := Lib.hid hz
      clear hz
      go_wp2
      go_loopg [14] l.length (fun gh iv wx => ∃ i : Nat, i ≤ l.length ∧ gh = l.length - i ∧ iv = .int .i64 i ∧ wr = wx)
      case atStart => exact ⟨0, Nat.zero_le _, rfl, rfl, rfl⟩
      case round =>
        obtain ⟨i, hi, rfl, rfl, rfl⟩ := hrel
        by_cases hil : i < l.length
        · have hilz : (i : Int) < (l.length : Int) := by omega
          have c0 := hr.cell (i := i) (by omega)
          rw [HZ.out i hil] at c0
          go_wp2
          go_roundg (l.length - (i + 1))
          case measure => go_light; omega
          case rel => go_light; exact ⟨i + 1, by omega, rfl, by go_num, rfl⟩
        · obtain rfl : l.length = i := by omega
          go_wp2
          go_ret
          exact ⟨rfl, hs⟩
end Go.Proofs.Ytjndmehhdgiphaa
