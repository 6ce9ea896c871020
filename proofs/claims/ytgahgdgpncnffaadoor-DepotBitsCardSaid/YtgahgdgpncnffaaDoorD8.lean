/- depot: Open. -/
import Derived.Test.YtgahgdgpncnffaaDoorD7
import Derived.Test.YtgahgdgpncnffaaDoorTail
import Derived.Lib.AtoiAllCases
namespace Go.Proofs.YtgahgdgpncnffaaDoor
open Go.RowKit Go.Lib DepM Go.Sort

/-- where Open stands: what has been read, and what is left -/
structure OSt (w : World) (bs : Bs) (db : Nat) (W : World) (acc : List Mv) (mv jv : Value) : Prop where
  dep : DepMem W w.heap.size db acc mv jv
  since : w.Since w.heap.size W
  valid : Valid acc
  eq : bs = J acc ++ bs.drop (J acc).length
theorem OSt.le {w : World} {bs : Bs} {db : Nat} {W : World} {acc : List Mv} {mv jv : Value} (h : OSt w bs db W acc mv jv) : (J acc).length ≤ bs.length := by
  have := congrArg List.length h.eq
  simp only [List.length_append, List.length_drop] at this
  omega
theorem OSt.mv {w : World} {bs : Bs} {db : Nat} {W W' : World} {acc : List Mv} {mv jv : Value} (h : OSt w bs db W acc mv jv) (hs : W.Since W.heap.size W') : OSt w bs db W' acc mv jv :=
  ⟨h.dep.since hs, h.since.trans (since_down hs h.since.size), h.valid, h.eq⟩
theorem OSt.post {w : World} {bs : Bs} {db : Nat} {W : World} {acc : List Mv} {mv jv : Value} (h : OSt w bs db W acc mv jv)
    (hst : ∀ l r', bs.drop (J acc).length = l ++ 10 :: r' → (10 : UInt8) ∉ l → ∀ m, parse l = some m → lineB acc.length m = l ++ [10] → ¬ may acc m) :
    OpenPost w bs (.returned (.tuple #[.pointer (some ⟨db, 0, none⟩), .int .i64 ((J acc).length : Int)])) W :=
  ⟨h.since, db, acc, mv, jv, _, rfl, h.dep, h.valid, h.eq, hst⟩
theorem OSt.stop {w : World} {bs : Bs} {db : Nat} {W : World} {acc : List Mv} {mv jv : Value} (h : OSt w bs db W acc mv jv) {p : Nat} (hp : p = (J acc).length) {l r : Bs} (hr : bs.drop p = l ++ 10 :: r) (h10 : (10 : UInt8) ∉ l)
    (hst : ∀ m, parse l = some m → lineB acc.length m = l ++ [10] → ¬ may acc m) : OpenPost w bs (.returned (.tuple #[.pointer (some ⟨db, 0, none⟩), .int .i64 (p : Int)])) W := by
  rw [hp] at hr ⊢
  refine h.post (fun l' r' h1 h2 m h3 h4 => ?_)
  rw [hr] at h1
  obtain ⟨rfl, _⟩ := cut_at h1 h10 h2
  exact hst m h3 h4
theorem Valid.le500 {acc : List Mv} (h : Valid acc) : acc.length ≤ 500 := by
  rcases Nat.lt_or_ge 500 acc.length with h5 | h5
  · have h1 := h 500 acc[500] (List.getElem?_eq_getElem h5)
    have h2 := h1.2.2.2
    rw [List.length_take, Nat.min_eq_left (by omega)] at h2
    exact absurd rfl h2
  · exact h5
theorem since_drewN'' (w : World) (n : Nat) : w.Since w.heap.size (w.drewN n) := ⟨rfl, rfl, rfl, Nat.le_refl _, fun _ _ => rfl⟩
/-- a later world in which all that was there stands as it did -/
structure Lat (w : World) where
  v : World
  h : w.Since w.heap.size v
instance (w : World) : Inhabited (Lat w) := ⟨⟨w, World.Since.refl _ _⟩⟩
theorem wp_region_quiet_since {P : Program} {id : Nat} {Q : Exit → Act → World → Prop} {a : Act} {w : World} {l : List Oper} (hm : P.follows .mixedOrders = true) (hB : Region.lexB .any l.toArray = true)
    (h : wpQuiet P l.toArray (fun w' => ∃ p : Lat w, w' = p.v) (fun a' => ∀ w', (∃ p : Lat w, w' = p.v) → Q .normal a' w') l a) : (Code.region id l.toArray true).wp P Q a w :=
  wp_region_quiet (C := fun w' => ∃ p : Lat w, w' = p.v) hm hB ⟨⟨w.drew, ⟨rfl, rfl, rfl, Nat.le_refl _, fun _ _ => rfl⟩⟩, rfl⟩ (by simpa using h)
theorem words_len : ∀ {l x : Bs}, x ∈ words l → x.length ≤ l.length
  | [], x, h => by simp [words] at h; subst h; simp
  | c :: l, x, h => by
    unfold words at h
    split at h
    · rcases List.mem_cons.1 h with rfl | h
      · simp
      · have := words_len h; simp; omega
    · split at h
      · rename_i h1; exact absurd h1 (words_ne l)
      · rename_i h0 t h1
        rcases List.mem_cons.1 h with rfl | h
        · have := words_len (l := l) (x := h0) (by rw [h1]; exact List.mem_cons_self ..)
          simp; omega
        · have := words_len (l := l) (x := x) (by rw [h1]; exact List.mem_cons_of_mem _ h)
          simp; omega
theorem four {L : List Bs} (h : L.length = 4) : ∃ a b c d, L = [a, b, c, d] := by
  match L, h with
  | [a, b, c, d], _ => exact ⟨a, b, c, d, rfl⟩
set_option maxHeartbeats 8000000 in
set_option maxRecDepth 100000 in
theorem Open_row {w : World} (he : Env w) {g n c : Nat} {bs : Bs} (hb : BAt w g 0 bs) (hn : bs.length = n) (hc : n ≤ c) (hg : g < w.heap.size) (hl : n ≤ 100000) :
    Calls Tryd.prog 7 #[.slice (some ⟨g, 0, none⟩) n c] w (OpenPost w bs) := by
  have hmixed : Tryd.prog.follows .mixedOrders = true := layItoa.mixed
  obtain ⟨db, hdb⟩ : ∃ db, db = w.heap.size := ⟨_, rfl⟩
  have HS : Hid (w.Since w.heap.size (w.alloc (.cells #[.map none, .slice none 0 0, .int .i64 0] 37))) := Lib.hid ((World.Since.refl _ _).alloc (Nat.le_refl _) _)
  have HO : Hid (OSt w bs db (w.alloc (.cells #[.map none, .slice none 0 0, .int .i64 0] 37)) [] (.map none) (.slice none 0 0)) := Lib.hid ⟨DepMem.new' w (Nat.le_refl w.heap.size) hdb, HS.out, Valid.nil, rfl⟩
  have HE := Lib.hid he
  have HB := Lib.hid hb
  have Hn := Lib.hid hn
  have Hg := Lib.hid hg
  clear he hb hn hg
  go_enter Tryd.func7, Tryd.ntmps7
  go_upto_region 2 with fail
  rw [← hdb]
  clear hdb
  generalize w.alloc (.cells #[.map none, .slice none 0 0, .int .i64 0] 37) = w1 at *
  go_loopg [5] n (fun gh rv wr => ∃ acc mv jv, gh = n - (J acc).length ∧ Hid (OSt w bs db wr acc mv jv))
  case atStart => exact ⟨[], _, _, rfl, HO⟩
  case round =>
    clear HO HS
    generalize w1 = wx at *
    obtain ⟨acc, mv, jv, rfl, HI⟩ := hrel
    obtain ⟨AJ, cJ, rfl, _⟩ := own_form HI.out.dep.row
    obtain ⟨p, hp⟩ : ∃ p, p = (J acc).length := ⟨_, rfl⟩
    have hpn : p ≤ n := by rw [hp, ← Hn.out]; exact HI.out.le
    rw [← hp] at HI
    have Hp := Lib.hid hp
    have hpi : (p : Int) ≤ (n : Int) := by omega
    obtain ⟨o, hsl, ho⟩ := slice_lo g n c p hpn
    have c1 := HI.out.dep.c1
    have c2 := HI.out.dep.c2
    obtain ⟨k, hk⟩ : ∃ k, k = acc.length := ⟨_, rfl⟩
    rw [← hk] at c2
    have Hk := Lib.hid hk
    have HBr : Hid (BAt wr g 0 bs) := Lib.hid (HB.out.keep (HI.out.since.block g Hg.out))
    have HR : Hid (BAt wr g o (bs.drop p)) := Lib.hid (by
      rcases ho with h0 | h0
      · rw [h0]; have := HBr.out.drop p; rwa [Nat.zero_add] at this
      · rw [List.drop_eq_nil_of_le (by have := Hn.out; omega)]; exact BAt.nil _ _ _)
    have hdl : (bs.drop p).length = n - p := by rw [List.length_drop, Hn.out]
    obtain ⟨q, hq⟩ : ∃ q, q = n - p := ⟨_, rfl⟩
    obtain ⟨c', hc'⟩ : ∃ c', c' = c - p := ⟨_, rfl⟩
    rw [← hq, ← hc'] at hsl
    rw [← hq] at hdl
    have HX := Lib.hid (IndexByte_any HR.out q c' hdl)
    have Hq := Lib.hid hq
    have hqc : q ≤ c' := by omega
    have hqb : q ≤ 100000 := by omega
    clear hp hk hc' ho
    clear hq
    by_cases hx : Lib.indexByte (bs.drop p) 10 = -1
    · have Hst : Hid (∀ l r', bs.drop (J acc).length = l ++ 10 :: r' → (10 : UInt8) ∉ l → ∀ m, parse l = some m → lineB acc.length m = l ++ [10] → ¬ may acc m) := Lib.hid (fun l r' h1 _ => by
        have := ix_miss hx
        rw [Hp.out, h1] at this
        exact absurd (by simp) this)
      rw [hx] at HX
      clear hx hdl hqc hqb c2
      go_wp2_with fail
      refine HX.out.mono ?_
      rintro e w2 ⟨rfl, rfl⟩
      go_wp2
      go_quiet (fail)
      go_wp2
      go_ret2
      have HI2 := HI.out.mv (since_drewN'' w2 nq)
      have := HI2.post Hst.out
      rw [← Hp.out] at this
      exact this
    · obtain ⟨kn, hk1, hk2, hk3, hk4⟩ := ix_hit hx
      rw [hk1] at HX
      rw [hdl] at hk2
      obtain ⟨l, hl0⟩ : ∃ l, l = (bs.drop p).take kn := ⟨_, rfl⟩
      obtain ⟨R', hR'⟩ : ∃ R', R' = (bs.drop p).drop (kn + 1) := ⟨_, rfl⟩
      rw [← hl0, ← hR'] at hk3
      rw [← hl0] at hk4
      have hll : l.length = kn := by rw [hl0, List.length_take, hdl]; omega
      have hs1 := fun W => slice_hi g o q c' kn (by omega) W
      have hs2 : ∀ W, (Instr.slice 23 (.slice (some ⟨g, o, none⟩) q c') none (some (.int .i64 ((kn : Int) + 1))) none).run Tryd.prog W = .ok (.slice (some ⟨g, o, none⟩) (kn + 1) c') W := fun W => slice_hi g o q c' (kn + 1) (by omega) W
      have HBl : Hid (BAt wr g o l) := Lib.hid (by rw [hl0]; exact HR.out.take kn)
      have HBl1 : Hid (BAt wr g o (l ++ [10])) := Lib.hid (by
        have h1 := HR.out.take (kn + 1)
        have h2 : (bs.drop p).take (kn + 1) = l ++ [10] := by
          rw [hk3, ← hll, show l ++ 10 :: R' = (l ++ [10]) ++ R' by simp, List.take_left' (by simp)]
        rwa [h2] at h1)
      have hcv := HBl.out.conv kn c' hll
      have Hl3 := Lib.hid hk3
      have Hl4 := Lib.hid hk4
      have Hll := Lib.hid hll
      have hkn : (0 : Int) ≤ (kn : Int) := by omega
      obtain ⟨s, hs⟩ : ∃ s, s = strB l := ⟨_, rfl⟩
      have hss : s.data.toList = l := by rw [hs]; rfl
      have hsl1 : s.size ≤ 1000000 := by rw [hs]; show l.toArray.size ≤ _; rw [List.size_toArray]; omega
      rw [← hs] at hcv
      obtain ⟨wn, hwn⟩ : ∃ wn, wn = (words l).length := ⟨_, rfl⟩
      have CS := Lib.hid (Split_any s wr (HE.out.since HI.out.since (HE.out.low)) hsl1 wn (by rw [hss]; exact hwn))
      rw [hss] at CS
      obtain ⟨qb, hqb'⟩ : ∃ qb, qb = wr.heap.size := ⟨_, rfl⟩
      rw [← hqb'] at CS
      have HSa : Hid (wr.Since wr.heap.size (wr.alloc (.cells ((words l).map (fun x => Value.string (strB x))).toArray 9))) := Lib.hid ((World.Since.refl _ _).alloc (Nat.le_refl _) _)
      have HWc : Hid (∀ i x, (words l)[i]? = some x → (wr.alloc (.cells ((words l).map (fun x => Value.string (strB x))).toArray 9)).cell? ⟨qb, i, none⟩ = some (.string (strB x))) := Lib.hid (fun i x hi => by
        rw [World.cell?_alloc_at _ _ _ _ hqb']
        simp [hi])
      have HqL : Hid (qb < (wr.alloc (.cells ((words l).map (fun x => Value.string (strB x))).toArray 9)).heap.size) := Lib.hid (by simp [hqb'])
      have HI2 := Lib.hid (HI.out.mv HSa.out)
      have c2b : (wr.alloc (.cells ((words l).map (fun x => Value.string (strB x))).toArray 9)).cell? ⟨db, 2, none⟩ = some (.int .i64 (k : Int)) := by rw [HSa.out.cell (a := ⟨db, 2, none⟩) HI.out.dep.lt]; exact c2
      have c1b : (wr.alloc (.cells ((words l).map (fun x => Value.string (strB x))).toArray 9)).cell? ⟨db, 1, none⟩ = some (.slice AJ p cJ) := by rw [HSa.out.cell (a := ⟨db, 1, none⟩) HI.out.dep.lt]; exact c1
      have HBl2 : Hid (BAt (wr.alloc (.cells ((words l).map (fun x => Value.string (strB x))).toArray 9)) g o (l ++ [10])) := Lib.hid (HBl1.out.keep (HSa.out.block g (Nat.lt_of_lt_of_le Hg.out HI.out.since.size)))
      have Hwn := Lib.hid hwn
      clear hx hk1 hk3 hk4 hl0 hR' hll hs hss hwn hqb' hdl
      go_wp2_with fail
      refine HX.out.mono ?_
      rintro e w2 ⟨rfl, rfl⟩
      go_wp2_with fail
      refine CS.out.mono ?_
      rintro e w3 ⟨rfl, rfl⟩
      clear c1 c2 hcv CS HX HI HR HBr HBl HBl1 HSa
      generalize w2.alloc (.cells ((words l).map (fun x => Value.string (strB x))).toArray 9) = w3 at *
      by_cases h4 : wn = 4
      case neg =>
        have Hst : Hid (∀ m, parse l = some m → lineB acc.length m = l ++ [10] → ¬ may acc m) := Lib.hid (fun m hm => by
          exfalso
          unfold parse at hm
          split at hm
          · rename_i h5
            have := Hwn.out
            rw [h5] at this
            exact h4 this
          · cases hm)
        have h4' : ((wn : Int) == 4) = false := by rw [beq_eq_false_iff_ne]; omega
        clear h4
        go_wp2
        go_quiet (fail)
        go_wp2
        go_ret2
        exact (HI2.out.mv (since_drewN'' w3 nq)).stop Hp.out Hl3.out Hl4.out Hst.out
      subst h4
      obtain ⟨x0, x1, x2, x3, hw4⟩ := four Hwn.out.symm
      have z1 := HWc.out 1 x1 (by rw [hw4]; rfl)
      have z2 := HWc.out 2 x2 (by rw [hw4]; rfl)
      have hx1 : x1.length ≤ 100000 := by have := words_len (l := l) (x := x1) (by rw [hw4]; simp); have := Hll.out; omega
      have hx2 : x2.length ≤ 100000 := by have := words_len (l := l) (x := x2) (by rw [hw4]; simp); have := Hll.out; omega
      obtain ⟨t, ht⟩ : ∃ t, t = strB x1 := ⟨_, rfl⟩
      obtain ⟨t2, ht2⟩ : ∃ t, t = strB x2 := ⟨_, rfl⟩
      have hts : t.size ≤ 100000 := by rw [ht]; show x1.toArray.size ≤ _; rw [List.size_toArray]; exact hx1
      have htd : t.data.toList = x1 := by rw [ht]; rfl
      have CA := Lib.hid (Atoi_any t2 w3 (HE.out.since HI2.out.since HE.out.low) (by rw [ht2]; show x2.toArray.size ≤ _; rw [List.size_toArray]; omega))
      rw [show t2.data.toList = x2 by rw [ht2]; rfl] at CA
      rw [← ht] at z1
      rw [← ht2] at z2
      have Hw4 := Lib.hid hw4
      have Htd := Lib.hid htd
      clear ht ht2 hw4 htd HWc hx1 hx2
      go_wp2_with fail
      refine CA.out.mono ?_
      rintro e w4 ⟨hs4, hres⟩
      have HI4 := Lib.hid (HI2.out.mv hs4)
      have y1 : w4.cell? ⟨qb, 1, none⟩ = some (.string t) := by rw [hs4.cell (a := ⟨qb, 1, none⟩) HqL.out]; exact z1
      have d1 : w4.cell? ⟨db, 1, none⟩ = some (.slice AJ p cJ) := by rw [hs4.cell (a := ⟨db, 1, none⟩) HI2.out.dep.lt]; exact c1b
      have d2 : w4.cell? ⟨db, 2, none⟩ = some (.int .i64 (k : Int)) := by rw [hs4.cell (a := ⟨db, 2, none⟩) HI2.out.dep.lt]; exact c2b
      have HBl4 : Hid (BAt w4 g o (l ++ [10])) := Lib.hid (HBl2.out.keep (hs4.block g (Nat.lt_of_lt_of_le Hg.out HI2.out.since.size)))
      clear hs4 CA c1b c2b z1 z2 HqL HBl2 HI2
      rcases hres with ⟨v, hav, rfl⟩ | ⟨hav, x, tp, pp, rfl⟩
      case inr =>
        have Hst : Hid (∀ m, parse l = some m → lineB acc.length m = l ++ [10] → ¬ may acc m) := Lib.hid (fun m hm => by
          exfalso
          unfold parse at hm
          rw [Hw4.out] at hm
          simp only at hm
          cases hm)
        clear hav
        obtain ⟨px, hpx⟩ : ∃ px, px = w4.heap.size := ⟨_, rfl⟩
        have hsa : w4.Since w4.heap.size (w4.alloc (.cells #[.string t, .int .i64 x] 42)) := (World.Since.refl _ _).alloc (Nat.le_refl _) _
        have HI5 := Lib.hid (HI4.out.mv hsa)
        have f1 := HI5.out.dep.c1
        clear d1 d2 HBl4 hsa
        go_upto_region 11 with fail
        rw [← hpx]
        clear HI4 y1 hpx
        generalize w4.alloc (.cells #[.string t, .int .i64 x] 42) = w5 at *
        go_quiet (fail)
        go_wp2
        go_quiet (fail)
        go_wp2
        go_ret2
        rw [World.drewN_drewN]
        exact (HI5.out.mv (since_drewN'' w5 _)).stop Hp.out Hl3.out Hl4.out Hst.out
      obtain ⟨px, hpx⟩ : ∃ px, px = w4.heap.size := ⟨_, rfl⟩
      have hsa : w4.Since w4.heap.size (w4.alloc (.cells #[.string t, .int .i64 v] 42)) := (World.Since.refl _ _).alloc (Nat.le_refl _) _
      have HI5 := Lib.hid (HI4.out.mv hsa)
      have f1 := HI5.out.dep.c1
      have f2 := HI5.out.dep.c2
      rw [← Hk.out] at f2
      have e0 : (w4.alloc (.cells #[.string t, .int .i64 v] 42)).cell? ⟨px, 0, none⟩ = some (.string t) := by rw [World.cell?_alloc_at _ _ _ _ hpx]; rfl
      have e1 : (w4.alloc (.cells #[.string t, .int .i64 v] 42)).cell? ⟨px, 1, none⟩ = some (.int .i64 v) := by rw [World.cell?_alloc_at _ _ _ _ hpx]; rfl
      have hplt : px < (w4.alloc (.cells #[.string t, .int .i64 v] 42)).heap.size := by simp [hpx]
      have HB5 : Hid (BAt (w4.alloc (.cells #[.string t, .int .i64 v] 42)) g o (l ++ [10])) := Lib.hid (HBl4.out.keep (hsa.block g (Nat.lt_of_lt_of_le Hg.out HI4.out.since.size)))
      clear d1 d2 HBl4 hsa
      go_upto_region 11 with fail
      rw [← hpx]
      clear HI4 y1 hpx
      generalize w4.alloc (.cells #[.string t, .int .i64 v] 42) = w5 at *
      have HPl : Hid (parse l = some (x1, v)) := Lib.hid (by
        unfold parse
        rw [Hw4.out]
        simp only [hav])
      obtain ⟨ln, hln⟩ : ∃ ln, ln = strB (lineB k (t.data.toList, v)) := ⟨_, rfl⟩
      obtain ⟨hv0, hv1⟩ := Lib.atoiAll_bounds hav
      have HV5 := Valid.le500 HI5.out.valid
      have hk5 : k ≤ 1000 := by have := Hk.out; omega
      have CL : Hid (∀ W, w5.Since w5.heap.size W → Calls Tryd.prog 15 #[.int .i64 (k : Int), .agg #[.string t, .int .i64 v]] W fun e w' => e = .returned (.string ln) ∧ W.Since W.heap.size w') := Lib.hid (fun W hW => by
        rw [hln]
        exact line_any hk5 t v hv0 hv1 (by omega) W (HE.out.since (HI5.out.mv hW).since HE.out.low))
      obtain ⟨s1, hs1'⟩ : ∃ s1, s1 = strB (l ++ [10]) := ⟨_, rfl⟩
      have HCV : Hid (∀ W, w5.Since w5.heap.size W → (convert 23 9 (.slice (some ⟨g, o, none⟩) (kn + 1) c')).run Tryd.prog W = .ok (.string s1) W) := Lib.hid (fun W hW => by
        rw [hs1']
        exact (HB5.out.keep (hW.block g (Nat.lt_of_lt_of_le Hg.out HI5.out.since.size))).conv (kn + 1) c' (by simp [Hll.out]))
      have Hln := Lib.hid hln
      have Hs1 := Lib.hid hs1'
      have Hav := Lib.hid hav
      clear hln hs1' hav HV5 hk5
      have g0 : ∀ q : Lat w5, q.v.cell? ⟨px, 0, none⟩ = some (.string t) := fun q => (q.h.cell (a := ⟨px, 0, none⟩) hplt).trans e0
      have g1 : ∀ q : Lat w5, q.v.cell? ⟨px, 1, none⟩ = some (.int .i64 v) := fun q => (q.h.cell (a := ⟨px, 1, none⟩) hplt).trans e1
      have g2 : ∀ q : Lat w5, q.v.cell? ⟨db, 2, none⟩ = some (.int .i64 (k : Int)) := fun q => (q.h.cell (a := ⟨db, 2, none⟩) HI5.out.dep.lt).trans f2
      have g3 : ∀ q : Lat w5, (convert 23 9 (.slice (some ⟨g, o, none⟩) (kn + 1) c')).run Tryd.prog q.v = .ok (.string s1) q.v := fun q => HCV.out q.v q.h
      have g4 : Hid (∀ q : Lat w5, Calls Tryd.prog 15 #[.int .i64 (k : Int), .agg #[.string t, .int .i64 v]] q.v fun e w' => e = .returned (.string ln) ∧ ∃ q' : Lat w5, w' = q'.v) := Lib.hid (fun q => (CL.out q.v q.h).mono (fun e w' ⟨h1, h2⟩ => ⟨h1, ⟨w', since_join q.h h2⟩, rfl⟩))
      have hwr : IntKind.i64.wrap ((kn : Int) + 1) = (kn : Int) + 1 := by simp [IntKind.wrap, IntKind.bits, IntKind.signed]; omega
      clear e0 e1 f1 f2 hplt
      by_cases heq : ln = s1
      case neg =>
        have Hst : Hid (∀ m, parse l = some m → lineB acc.length m = l ++ [10] → ¬ may acc m) := Lib.hid (fun m hm hL => by
          exfalso
          rw [HPl.out] at hm
          injection hm with hm
          subst hm
          apply heq
          rw [Hln.out, Hs1.out, Htd.out, Hk.out, hL])
        have hne : (ln.toList == s1.toList) = false := by
          rw [beq_eq_false_iff_ne]
          intro e
          rw [Lib.toList_data, Lib.toList_data] at e
          exact heq (ByteArray.ext (Array.toList_inj.1 e))
        clear heq
        refine wp_region_quiet_since (by assumption) (by kernel_rfl) ?_
        repeat (quiet_step (exact g4.out _))
        refine wpQuiet_nil ?_
        intro w6 hw'
        have hs6 : w5.Since w5.heap.size w6 := by
          obtain ⟨⟨_, h⟩, rfl⟩ := hw'
          exact h
        clear hw'
        have HI6 := Lib.hid (HI5.out.mv hs6)
        have f1 := HI6.out.dep.c1
        clear g0 g1 g2 g3 g4 hs6
        go_wp2
        go_quiet (fail)
        go_wp2
        go_ret2
        exact (HI6.out.mv (since_drewN'' w6 _)).stop Hp.out Hl3.out Hl4.out Hst.out
      have hne : (ln.toList == s1.toList) = true := by rw [heq, beq_iff_eq]
      have Heq := Lib.hid heq
      have HDo : Hid (∀ W, w5.Since w5.heap.size W → Calls Tryd.prog 11 #[.pointer (some ⟨db, 0, none⟩), .agg #[.string t, .int .i64 v]] W (DoPost W w.heap.size db acc (x1, v) mv (.slice AJ p cJ))) := Lib.hid (fun W hW => by
        have h1 := HI5.out.mv hW
        have h2 := hv_bd (a := acc) x1 (fun m hm => (h1.valid.all m hm).2)
        have h3 := Valid.le500 h1.valid
        have h4 := Do_any h1.dep (HE.out.since h1.since HE.out.low) HE.out.low h3 t v (by unfold maxLen; omega) (by rw [Htd.out]; omega) (by have := HI5.out.le; have := Hn.out; omega)
        rw [Htd.out] at h4
        exact h4)
      clear heq
      by_cases hm : may acc (x1, v)
      case neg =>
        have HM := Lib.hid hm
        have CD : Hid (∀ W, w5.Since w5.heap.size W → Calls Tryd.prog 11 #[.pointer (some ⟨db, 0, none⟩), .agg #[.string t, .int .i64 v]] W (fun e w' => W.Since w.heap.size w' ∧ ∃ k', e = .returned (.iface 56 (.int .i64 k')) ∧ DepMem w' w.heap.size db acc mv (.slice AJ p cJ))) := Lib.hid (fun W hW => (HDo.out W hW).mono (fun e w' ⟨h1, h2⟩ => ⟨h1, by
          rcases h2 with ⟨h3, _⟩ | ⟨_, h3⟩
          · exact absurd h3 HM.out
          · exact h3⟩))
        have Hst : Hid (∀ m, parse l = some m → lineB acc.length m = l ++ [10] → ¬ may acc m) := Lib.hid (fun m hm hL => by
          rw [HPl.out] at hm
          injection hm with hm
          subst hm
          exact HM.out)
        clear hm HDo
        refine wp_region_quiet_tail (C := fun w' => ∃ p : Lat w5, w' = p.v) 19 (by assumption) (by kernel_rfl) ⟨⟨w5.drew, ⟨rfl, rfl, rfl, Nat.le_refl _, fun _ _ => rfl⟩⟩, rfl⟩ ?_
        simp only [List.take_succ_cons, List.take_zero, List.drop_succ_cons, List.drop_zero]
        repeat (quiet_step (exact g4.out _))
        refine wpQuiet_nil ?_
        intro w6 hw'
        have hs6 : w5.Since w5.heap.size w6 := by
          obtain ⟨⟨_, h⟩, rfl⟩ := hw'
          exact h
        clear hw' g0 g1 g2 g3 g4
        have HI6 := Lib.hid (HI5.out.mv hs6)
        have CD6 := Lib.hid (CD.out w6 hs6)
        clear hs6 CD
        go_wp2_with fail
        refine CD6.out.mono ?_
        rintro e w7 ⟨hs7, k', rfl, hd7⟩
        have HI7 : Hid (OSt w bs db w7 acc mv (.slice AJ p cJ)) := Lib.hid ⟨hd7, HI6.out.since.trans hs7, HI6.out.valid, HI6.out.eq⟩
        have f1 := hd7.c1
        clear hs7 hd7
        go_wp2
        go_quiet (fail)
        go_wp2
        go_ret2
        exact (HI7.out.mv (since_drewN'' w7 _)).stop Hp.out Hl3.out Hl4.out Hst.out
      have HM := Lib.hid hm
      have CD : Hid (∀ W, w5.Since w5.heap.size W → Calls Tryd.prog 11 #[.pointer (some ⟨db, 0, none⟩), .agg #[.string t, .int .i64 v]] W (fun e w' => W.Since w.heap.size w' ∧ e = .returned .nilIface ∧ ∃ mv' jv', DepMem w' w.heap.size db (acc ++ [(x1, v)]) mv' jv')) := Lib.hid (fun W hW => (HDo.out W hW).mono (fun e w' ⟨h1, h2⟩ => ⟨h1, by
        rcases h2 with ⟨_, h3⟩ | ⟨h3, _⟩
        · exact h3
        · exact absurd HM.out h3⟩))
      clear hm HDo
      refine wp_region_quiet_tail (C := fun w' => ∃ p : Lat w5, w' = p.v) 19 (by assumption) (by kernel_rfl) ⟨⟨w5.drew, ⟨rfl, rfl, rfl, Nat.le_refl _, fun _ _ => rfl⟩⟩, rfl⟩ ?_
      simp only [List.take_succ_cons, List.take_zero, List.drop_succ_cons, List.drop_zero]
      repeat (quiet_step (exact g4.out _))
      refine wpQuiet_nil ?_
      intro w6 hw'
      have hs6 : w5.Since w5.heap.size w6 := by
        obtain ⟨⟨_, h⟩, rfl⟩ := hw'
        exact h
      clear hw' g0 g1 g2 g3 g4
      have HI6 := Lib.hid (HI5.out.mv hs6)
      have CD6 := Lib.hid (CD.out w6 hs6)
      clear hs6 CD
      go_wp2_with fail
      refine CD6.out.mono ?_
      rintro e w7 ⟨hs7, rfl, mv', jv', hd7⟩
      have hE : lineB acc.length (x1, v) = l ++ [10] := by
        have h1 := Heq.out
        rw [Hln.out, Hs1.out, Htd.out, Hk.out] at h1
        have h2 := congrArg (fun b : ByteArray => b.data.toList) h1
        exact h2
      have hJ : J (acc ++ [(x1, v)]) = J acc ++ (l ++ [10]) := by rw [J_snoc, hE]
      have hJl : (J (acc ++ [(x1, v)])).length = p + (kn + 1) := by rw [hJ, List.length_append, ← Hp.out, List.length_append, Hll.out]; rfl
      have HI7 : Hid (OSt w bs db w7 (acc ++ [(x1, v)]) mv' jv') := Lib.hid ⟨hd7, HI6.out.since.trans hs7, HI6.out.valid.snoc HM.out, by
        have h1 := HI6.out.eq
        rw [← Hp.out, Hl3.out] at h1
        have h2 : bs = J (acc ++ [(x1, v)]) ++ R' := by rw [hJ]; rw [h1]; simp
        conv => lhs; rw [h2]
        congr 1
        rw [h2, List.drop_left]⟩
      have HJl := Lib.hid hJl
      have HQ := Lib.hid (show kn < n - p from by have := Hq.out; omega)
      clear hs7 hd7 hE hJ hJl
      go_wp2
      go_roundg (n - (J (acc ++ [(x1, v)])).length)
      case measure => go_light; have h1 := HJl.out; have h2 := HQ.out; have h3 := Hp.out; omega
      case rel => go_light; exact ⟨_, _, _, rfl, HI7⟩
end Go.Proofs.YtgahgdgpncnffaaDoor
