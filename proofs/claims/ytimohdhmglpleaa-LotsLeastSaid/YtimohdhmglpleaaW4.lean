/- lots: Cost. -/
import Derived.Test.YtimohdhmglpleaaW3
namespace Go.Proofs.Ytimohdhmglpleaa
open Go.RowKit PermM LotsM

/-- an order that can be carried out, and leaves nothing -/
structure CostOk (l od : List Int) : Prop where
  len : od.length = l.length
  ok : ∀ x ∈ od, 0 ≤ x ∧ x ≤ 50000000
  hv : ∀ t, t ≤ l.length → 0 ≤ hv (fn l) (fn od) t
  fin : LotsM.hv (fn l) (fn od) l.length = 0
def CostPost (l o k od : List Int) (w : World) (e : Ending) (w' : World) : Prop :=
  w.Since w.heap.size w' ∧ ((e = .returned (.tuple #[.int .i64 (cost (fn l) (fn o) (fn k) (fn od) l.length), .nilIface]) ∧ CostOk l od) ∨ ∃ c : Int, e = .returned (.tuple #[.int .i64 0, .iface 40 (.int .i64 c)]) ∧ ¬ CostOk l od)
theorem CostPost.bad {l o k od : List Int} {w w' : World} (c : Int) (hs : w.Since w.heap.size w') (h : ¬ CostOk l od) : CostPost l o k od w (.returned (.tuple #[.int .i64 0, .iface 40 (.int .i64 c)])) w' := ⟨hs, .inr ⟨c, rfl, h⟩⟩
theorem hv_bd {w x : Nat → Int} (hw : ∀ t, 0 ≤ w t) (hx : ∀ t, x t ≤ 50000000) : ∀ t, hv w x t ≤ 50000000 * t
  | 0 => by simp [hv]
  | t + 1 => by
    have h1 := hv_bd hw hx t
    have h2 := hw t
    have h3 := hx t
    show hv w x t + x t - w t ≤ 50000000 * ((t + 1 : Nat) : Int)
    omega
set_option maxHeartbeats 8000000 in
set_option maxRecDepth 100000 in
theorem Cost_any {A B C D : Option Addr} {ca cb cc cd : Nat} {l o k od : List Int} {w : World} (hl : IntsAt w A l) (ho : IntsAt w B o) (hk : IntsAt w C k) (hd : IntsAt w D od) (t : NeedOk l o k) (nd : od.length ≤ 1000000000) :
    Calls Try.prog 6 #[.agg #[.slice A l.length ca, .slice B l.length cb, .slice C l.length cc], .slice D od.length cd] w (CostPost l o k od w) := by
  have hfew := t.few
  have hW : ∀ t, 0 ≤ fn l t ∧ fn l t ≤ 1000000 := fn_bd (by omega) t.okl
  have hO : ∀ t, 0 ≤ fn o t ∧ fn o t ≤ 1000000 := fn_bd (by omega) t.oko
  have hK : ∀ t, 0 ≤ fn k t ∧ fn k t ≤ 1000000 := fn_bd (by omega) t.okk
  have HW := Lib.hid hW
  have HO := Lib.hid hO
  have HK := Lib.hid hK
  clear hW hO hK
  obtain ⟨n, hn⟩ : ∃ n, n = l.length := ⟨_, rfl⟩
  have C1 : ∀ W, w.Since w.heap.size W → Calls Try.prog 7 #[.agg #[.slice A n ca, .slice B n cb, .slice C n cc]] W fun e w' => e = .returned .nilIface ∧ W.Since W.heap.size w' := fun W hs => by rw [hn]; exact Check_ok (hl.same hs) (ho.same hs) (hk.same hs) t
  have K1 := Lib.hid C1
  have HL : Hid (∀ i, i < n → ∃ b off, A = some ⟨b, off, none⟩ ∧ b < w.heap.size ∧ ∀ j, j < n → w.cell? ⟨b, off + j, none⟩ = some (.int .i64 (fn l j))) := Lib.hid (fun i hi => by
    obtain ⟨b, off, h1, h2, h3⟩ := hl i (by omega)
    exact ⟨b, off, h1, h2, fun j hj => h3 j _ (fn_get (by omega))⟩)
  have HOr : Hid (∀ i, i < n → ∃ b off, B = some ⟨b, off, none⟩ ∧ b < w.heap.size ∧ ∀ j, j < n → w.cell? ⟨b, off + j, none⟩ = some (.int .i64 (fn o j))) := Lib.hid (fun i hi => by
    obtain ⟨b, off, h1, h2, h3⟩ := ho i (by rw [t.lo]; omega)
    exact ⟨b, off, h1, h2, fun j hj => h3 j _ (fn_get (by rw [t.lo]; omega))⟩)
  have HKe : Hid (∀ i, i < n → ∃ b off, C = some ⟨b, off, none⟩ ∧ b < w.heap.size ∧ ∀ j, j < n → w.cell? ⟨b, off + j, none⟩ = some (.int .i64 (fn k j))) := Lib.hid (fun i hi => by
    obtain ⟨b, off, h1, h2, h3⟩ := hk i (by rw [t.lk]; omega)
    exact ⟨b, off, h1, h2, fun j hj => h3 j _ (fn_get (by rw [t.lk]; omega))⟩)
  have HD := Lib.hid hd
  have Hn := Lib.hid hn
  clear hl ho hk t C1 hd
  rw [← hn] at hfew ⊢
  clear hn
  have hnz : (n : Int) ≤ 50 := by omega
  have hs00 : ∀ u t, w.Since w.heap.size (w.alloc (.cells u t)) := fun u t => (World.Since.refl _ _).alloc (Nat.le_refl _) _
  have Hs00 := Lib.hid hs00
  clear hs00
  go_enter Try.func6, Try.ntmps6
  go_wp2_with fail
  refine (K1.out _ (Hs00.out _ _)).mono ?_
  rintro e w1 ⟨rfl, hs1⟩
  have b0 : w1.cell? ⟨w.heap.size, 0, none⟩ = some (.slice A n ca) := by rw [hs1.cell (show w.heap.size < _ by simp), World.cell?_alloc_at _ _ _ _ rfl]; rfl
  have b1 : w1.cell? ⟨w.heap.size, 1, none⟩ = some (.slice B n cb) := by rw [hs1.cell (show w.heap.size < _ by simp), World.cell?_alloc_at _ _ _ _ rfl]; rfl
  have b2 : w1.cell? ⟨w.heap.size, 2, none⟩ = some (.slice C n cc) := by rw [hs1.cell (show w.heap.size < _ by simp), World.cell?_alloc_at _ _ _ _ rfl]; rfl
  have hs01 : w.Since w.heap.size w1 := since_join (Hs00.out _ _) hs1
  clear hs1
  by_cases hln : od.length = n
  case neg =>
    have bne : (((od.length : Nat) : Int) != ((n : Nat) : Int)) = true := by rw [bne_iff_ne]; omega
    have Hln := Lib.hid hln
    have ndz : (od.length : Int) ≤ 1000000000 := by omega
    clear hln
    go_wp2
    go_ret2
    exact CostPost.bad 3 hs01 (fun t => Hln.out (by rw [t.len, Hn.out]))
  have bne : (((n : Nat) : Int) != ((n : Nat) : Int)) = false := by simp
  rw [hln]
  have Hln := Lib.hid hln
  have HDr : Hid (∀ i, i < n → ∃ b off, D = some ⟨b, off, none⟩ ∧ b < w.heap.size ∧ ∀ j, j < n → w.cell? ⟨b, off + j, none⟩ = some (.int .i64 (fn od j))) := Lib.hid (fun i hi => by
    obtain ⟨b, off, h1, h2, h3⟩ := HD.out i (by omega)
    exact ⟨b, off, h1, h2, fun j hj => h3 j _ (fn_get (by omega))⟩)
  clear hln nd
  go_wp2
  go_loopg [7, 8, 25] n (fun gh hv' sv iv wr => ∃ (t : Nat) (h s : Int), t ≤ n ∧ gh = n - t ∧ iv = .int .i64 t ∧ hv' = .int .i64 h ∧ sv = .int .i64 s ∧ 0 ≤ h ∧ h ≤ 50000000 * t ∧ 0 ≤ s ∧ s ≤ 2600000000000000 * t ∧ Hid (h = hv (fn l) (fn od) t) ∧ Hid (s = cost (fn l) (fn o) (fn k) (fn od) t) ∧ Hid (∀ u, u < t → 0 ≤ fn od u ∧ fn od u ≤ 50000000) ∧ Hid (∀ u, u ≤ t → 0 ≤ hv (fn l) (fn od) u) ∧ w1 = wr)
  case atStart => exact ⟨0, 0, 0, Nat.zero_le _, rfl, rfl, rfl, rfl, by omega, by omega, by omega, by omega, Lib.hid rfl, Lib.hid rfl, Lib.hid (fun u h => by omega), Lib.hid (fun u h => by
    obtain rfl : u = 0 := by omega
    exact Int.le_refl _), rfl⟩
  case round =>
    obtain ⟨t, h, s, htn, rfl, rfl, rfl, rfl, h0, h1, s0, s1, hh, hsm, hall, hnn, rfl⟩ := hrel
    by_cases ht : t < n
    · have htz : (t : Int) < (n : Int) := by omega
      obtain ⟨bA, oA, rfl, hbA, hcA⟩ := HL.out t ht
      obtain ⟨bB, oB, rfl, hbB, hcB⟩ := HOr.out t ht
      obtain ⟨bC, oC, rfl, hbC, hcC⟩ := HKe.out t ht
      obtain ⟨bD, oD, rfl, hbD, hcD⟩ := HDr.out t ht
      have f0 := hcA t ht
      have f1 := hcB t ht
      have f2 := hcC t ht
      have f3 := hcD t ht
      rw [← hs01.cell (show bA < w.heap.size from hbA)] at f0
      rw [← hs01.cell (show bB < w.heap.size from hbB)] at f1
      rw [← hs01.cell (show bC < w.heap.size from hbC)] at f2
      rw [← hs01.cell (show bD < w.heap.size from hbD)] at f3
      have hfl := HW.out t
      have hfo := HO.out t
      have hfk := HK.out t
      have hmem : fn od t ∈ od := List.mem_of_getElem? (fn_get (by rw [Hln.out]; exact ht))
      have Hmem := Lib.hid hmem
      have hhv : hv (fn l) (fn od) (t + 1) = h + fn od t - fn l t := by rw [hh.out]; rfl
      have hco : cost (fn l) (fn o) (fn k) (fn od) (t + 1) = s + (if 0 < fn od t then fn o t else 0) + (h + fn od t - fn l t) * fn k t := by
        rw [← hhv, hsm.out]; rfl
      have Hhv := Lib.hid hhv
      have Hco := Lib.hid hco
      have Hod : Hid (∀ z, fn od t = z → 0 ≤ z ∧ z ≤ 50000000 → ∀ u, u < t + 1 → 0 ≤ fn od u ∧ fn od u ≤ 50000000) := Lib.hid (fun z hz hb u hu => by
        by_cases e : u = t
        · rw [e, hz]; exact hb
        · exact hall.out u (by omega))
      have Hnz : Hid (∀ z, hv (fn l) (fn od) (t + 1) = z → 0 ≤ z → ∀ u, u ≤ t + 1 → 0 ≤ hv (fn l) (fn od) u) := Lib.hid (fun z hz hb u hu => by
        by_cases e : u = t + 1
        · rw [e, hz]; exact hb
        · exact hnn.out u (by omega))
      clear hcA hcB hcC hcD hmem hhv hco hh hsm hall hnn
      obtain ⟨x, hx⟩ : ∃ x, fn od t = x := ⟨_, rfl⟩
      rw [hx] at f3 Hhv Hco Hmem
      have Hx := Lib.hid hx
      clear hx
      generalize fn l t = fl at *
      generalize fn o t = fo at *
      generalize fn k t = fk at *
      obtain ⟨l0, l1⟩ := hfl
      obtain ⟨o0, o1⟩ := hfo
      obtain ⟨k0, k1⟩ := hfk
      by_cases hx0 : x < 0
      · go_wp2
        go_ret2
        exact CostPost.bad 2 hs01 (fun t => by have := (t.ok x Hmem.out).1; omega)
      have hx0' : 0 ≤ x := by omega
      clear hx0
      by_cases hx1 : 50000000 < x
      · go_wp2
        go_ret2
        exact CostPost.bad 2 hs01 (fun t => by have := (t.ok x Hmem.out).2; omega)
      have hx1' : x ≤ 50000000 := by omega
      clear hx1
      by_cases hneg : h + (x - fl) < 0
      · by_cases hpos : 0 < x
        · go_wp2
          go_ret2
          exact CostPost.bad 8 hs01 (fun q => by have := q.hv (t + 1) (by rw [← Hn.out]; exact ht); rw [Hhv.out] at this; omega)
        · have hpos' : x ≤ 0 := by omega
          clear hpos
          go_wp2
          go_ret2
          exact CostPost.bad 8 hs01 (fun q => by have := q.hv (t + 1) (by rw [← Hn.out]; exact ht); rw [Hhv.out] at this; omega)
      have hneg' : 0 ≤ h + (x - fl) := by omega
      clear hneg
      have hp0 : 0 ≤ (h + (x - fl)) * fk := Int.mul_nonneg hneg' k0
      have hp1 : (h + (x - fl)) * fk ≤ 2500000000 * 1000000 := Int.mul_le_mul (by omega) k1 k0 (by omega)
      have hmulE : (h + x - fl) * fk = (h + (x - fl)) * fk := by rw [show h + x - fl = h + (x - fl) by omega]
      rw [hmulE] at Hco
      have HmulE := Lib.hid hmulE
      clear hmulE
      by_cases hpos : 0 < x
      · rw [if_pos hpos] at Hco
        go_wp2
        go_roundg (n - (t + 1))
        case measure => go_light; omega
        case rel =>
          go_light
          exact ⟨t + 1, h + (x - fl), s + fo + (h + (x - fl)) * fk, by omega, rfl, by go_num, rfl, rfl, hneg', by omega, by omega, by omega, Lib.hid (by rw [Hhv.out]; omega), Lib.hid Hco.out.symm, Lib.hid (Hod.out x Hx.out ⟨hx0', hx1'⟩), Lib.hid (Hnz.out _ Hhv.out (by omega)), rfl⟩
      · rw [if_neg hpos] at Hco
        have hpos' : x ≤ 0 := by omega
        clear hpos
        go_wp2
        go_roundg (n - (t + 1))
        case measure => go_light; omega
        case rel =>
          go_light
          exact ⟨t + 1, h + (x - fl), s + (h + (x - fl)) * fk, by omega, rfl, by go_num, rfl, rfl, hneg', by omega, by omega, by omega, Lib.hid (by rw [Hhv.out]; omega), Lib.hid (by rw [Hco.out]; omega), Lib.hid (Hod.out x Hx.out ⟨hx0', hx1'⟩), Lib.hid (Hnz.out _ Hhv.out (by omega)), rfl⟩
    · obtain rfl : n = t := by omega
      by_cases hpos : 0 < h
      · go_wp2
        go_ret2
        exact CostPost.bad 10 hs01 (fun q => by have := q.fin; rw [← Hn.out, ← hh.out] at this; omega)
      · obtain rfl : h = 0 := by omega
        go_wp2
        go_ret2
        refine ⟨hs01, .inl ⟨by rw [hsm.out, Hn.out]; rfl, by rw [Hln.out, Hn.out], fun x hx => ?_, fun t ht => hnn.out t (by rw [Hn.out]; exact ht), by rw [← Hn.out]; exact hh.out.symm⟩⟩
        obtain ⟨i, hi, he⟩ := List.getElem_of_mem hx
        have := hall.out i (by rw [← Hln.out]; exact hi)
        rw [fn_at (by rw [List.getElem?_eq_getElem hi, he])] at this
        exact this
end Go.Proofs.Ytimohdhmglpleaa
