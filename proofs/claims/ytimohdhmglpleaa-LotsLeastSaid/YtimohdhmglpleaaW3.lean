/- lots: Plan. -/
import Derived.Test.YtimohdhmglpleaaW2
import Derived.Deep.DeepCutAuto
import Derived.Deep.QuietTactic
import Derived.BigQuiet
namespace Go.Proofs.Ytimohdhmglpleaa
open Go.RowKit PermM LotsM

/-- what a plan is -/
structure PlanOk (l o k : List Int) (x : Nat → Int) (c : Int) : Prop where
  pos : ∀ u, 0 ≤ x u
  high : ∀ u, l.length ≤ u → x u = 0
  ok : ok (fn l) x 0 0 l.length
  cost : sc (fn l) (fn o) (fn k) x 0 0 l.length = c
  best : ∀ y : Nat → Int, (∀ u, 0 ≤ y u) → (∀ t, t ≤ l.length → 0 ≤ hv (fn l) y t) → c ≤ LotsM.cost (fn l) (fn o) (fn k) y l.length
  bd : 0 ≤ c ∧ c ≤ 3000000000000000
def PlanPost (l o k : List Int) (w : World) (e : Ending) (w' : World) : Prop :=
  w.Since w.heap.size w' ∧ ∃ (g : Nat) (x : Nat → Int) (c : Int), e = .returned (.tuple #[.slice (some ⟨g, 0, none⟩) l.length l.length, .int .i64 c, .nilIface]) ∧ w.heap.size ≤ g ∧ w'.rowIs g 3 l.length (fun i => .int .i64 (x i)) ∧ PlanOk l o k x c
theorem since_drewN {w wr : World} {B : Nat} (h : w.Since B wr) (n : Nat) : w.Since B (wr.drewN n) := ⟨h.os, h.tape, h.output, h.size, h.block⟩
/-- the tables in memory -/
structure PlanW (w wr : World) (bl bf : Nat) (n : Nat) (le : Nat → Int) (fr : Nat → Nat) : Prop where
  since : w.Since w.heap.size wr
  rowl : wr.rowIs bl 3 n (fun i => .int .i64 (le i))
  rowf : wr.rowIs bf 3 n (fun i => .int .i64 (fr i : Nat))
theorem PlanW.setf {w wr : World} {bl bf n : Nat} {le : Nat → Int} {fr : Nat → Nat} (h : PlanW w wr bl bf n le fr) (hb : w.heap.size ≤ bf) (hne : bl ≠ bf) (i a : Nat) : PlanW w (wr.setCell ⟨bf, i, none⟩ (.int .i64 (a : Nat))) bl bf n le (fun j => if j = i then a else fr j) :=
  ⟨h.since.setCell hb _, h.rowl.setOther (a := ⟨bf, i, none⟩) (fun e => hne e) _, (h.rowf.set i _).congr (fun j _ => by by_cases e : j = i <;> simp [e])⟩
theorem PlanW.setl {w wr : World} {bl bf n : Nat} {le : Nat → Int} {fr : Nat → Nat} (h : PlanW w wr bl bf n le fr) (hb : w.heap.size ≤ bl) (hne : bl ≠ bf) (i : Nat) (v : Int) : PlanW w (wr.setCell ⟨bl, i, none⟩ (.int .i64 v)) bl bf n (fun j => if j = i then v else le j) fr :=
  ⟨h.since.setCell hb _, (h.rowl.set i _).congr (fun j _ => by by_cases e : j = i <;> simp [e]), h.rowf.setOther (a := ⟨bl, i, none⟩) (fun e => hne e.symm) _⟩
set_option maxHeartbeats 8000000 in
set_option maxRecDepth 100000 in
theorem Plan_ok {A B C : Option Addr} {ca cb cc : Nat} {l o k : List Int} {w : World} (hl : IntsAt w A l) (ho : IntsAt w B o) (hk : IntsAt w C k) (t : NeedOk l o k) (hca : l.length ≤ ca) (hca2 : ca ≤ 9223372036854775807) :
    Calls Try.prog 4 #[.agg #[.slice A l.length ca, .slice B l.length cb, .slice C l.length cc]] w (PlanPost l o k w) := by
  have hfew := t.few
  have hW : ∀ t, 0 ≤ fn l t ∧ fn l t ≤ 1000000 := fn_bd (by omega) t.okl
  have hO : ∀ t, 0 ≤ fn o t ∧ fn o t ≤ 1000000 := fn_bd (by omega) t.oko
  have hK : ∀ t, 0 ≤ fn k t ∧ fn k t ≤ 1000000 := fn_bd (by omega) t.okk
  have HW := Lib.hid hW
  have HO := Lib.hid hO
  have HK := Lib.hid hK
  clear hW hO hK
  obtain ⟨n, hn⟩ : ∃ n, n = l.length := ⟨_, rfl⟩
  have C1 : ∀ W, w.Since w.heap.size W → Calls Try.prog 7 #[.agg #[.slice A n ca, .slice B n cb, .slice C n cc]] W fun e w' => e = .returned .nilIface ∧ W.Since W.heap.size w' := fun W hs => by rw [hn]; exact Check_ok (hl.same hs) (ho.same hs) (hk.same hs) t
  have K1 := Lib.hid C1
  have HL : Hid (∀ i, i < n → ∃ b off, A = some ⟨b, off, none⟩ ∧ b < w.heap.size ∧ ∀ j, j < n → w.cell? ⟨b, off + j, none⟩ = some (.int .i64 (fn l j))) := Lib.hid (fun i hi => by
    obtain ⟨b, off, h1, h2, h3⟩ := hl i (by omega)
    exact ⟨b, off, h1, h2, fun j hj => h3 j _ (fn_get (by omega))⟩)
  have HOr : Hid (∀ i, i < n → ∃ b off, B = some ⟨b, off, none⟩ ∧ b < w.heap.size ∧ ∀ j, j < n → w.cell? ⟨b, off + j, none⟩ = some (.int .i64 (fn o j))) := Lib.hid (fun i hi => by
    obtain ⟨b, off, h1, h2, h3⟩ := ho i (by rw [t.lo]; omega)
    exact ⟨b, off, h1, h2, fun j hj => h3 j _ (fn_get (by rw [t.lo]; omega))⟩)
  have HKe : Hid (∀ i, i < n → ∃ b off, C = some ⟨b, off, none⟩ ∧ b < w.heap.size ∧ ∀ j, j < n → w.cell? ⟨b, off + j, none⟩ = some (.int .i64 (fn k j))) := Lib.hid (fun i hi => by
    obtain ⟨b, off, h1, h2, h3⟩ := hk i (by rw [t.lk]; omega)
    exact ⟨b, off, h1, h2, fun j hj => h3 j _ (fn_get (by rw [t.lk]; omega))⟩)
  have Hn := Lib.hid hn
  clear hl ho hk t C1
  rw [← hn] at hfew hca ⊢
  clear hn
  have hnz : (n : Int) ≤ 50 := by omega
  go_enter Try.func4, Try.ntmps4
  go_wp2_with fail
  refine (K1.out _ ((World.Since.refl _ _).alloc (Nat.le_refl _) _)).mono ?_
  rintro e w1 ⟨rfl, hs1⟩
  have b0 : w1.cell? ⟨w.heap.size, 0, none⟩ = some (.slice A n ca) := by rw [hs1.cell (show w.heap.size < _ by simp), World.cell?_alloc_at _ _ _ _ rfl]; rfl
  have b1 : w1.cell? ⟨w.heap.size, 1, none⟩ = some (.slice B n cb) := by rw [hs1.cell (show w.heap.size < _ by simp), World.cell?_alloc_at _ _ _ _ rfl]; rfl
  have b2 : w1.cell? ⟨w.heap.size, 2, none⟩ = some (.slice C n cc) := by rw [hs1.cell (show w.heap.size < _ by simp), World.cell?_alloc_at _ _ _ _ rfl]; rfl
  have hs01 : w.Since w.heap.size w1 := since_join ((World.Since.refl _ _).alloc (Nat.le_refl _) _) hs1
  have hz1 : w.heap.size < w1.heap.size := by have := hs1.size; simp at this; omega
  clear hs1
  have hmk := run_make_row' (P := Try.prog) 22 3 (.int .i64 0) 8 Try.underlying22 info_int rfl .i64 .i64 (n + 1) (by omega) (by omega)
  have hmk2 : ∀ w : World, (Instr.makeSlice 22 (.int .i64 ((n : Int) + 1)) (.int .i64 ((n : Int) + 1))).run Try.prog w = .ok (.slice (some ⟨w.heap.size, 0, none⟩) (n + 1) (n + 1)) (w.alloc (.cells (madeCells #[.int .i64 0] (n + 1)) 3)) := hmk
  clear hmk
  have hwn : IntKind.i64.wrap ((n : Int) + 1) = (n : Int) + 1 := IntWalk.i64_in _ (by omega)
  go_upto_region 5 with fail
  go_cut [7, 8] (fun lv fv wx => ∃ bl bf : Nat, lv = .slice (some ⟨bl, 0, none⟩) (n + 1) (n + 1) ∧ fv = .slice (some ⟨bf, 0, none⟩) (n + 1) (n + 1) ∧ w1.heap.size ≤ bl ∧ w1.heap.size ≤ bf ∧ bl ≠ bf ∧ w1.Since w1.heap.size wx ∧ Hid (PlanW w wx bl bf (n + 1) (fun _ => 0) (fun _ => 0)))
  case first =>
    clear HL HOr HKe K1 HW HO HK
    go_region
    all_goals
      have r1 := World.rowIs_made w1 (Value.int .i64 0) (n + 1) 3
      have r2 := World.rowIs_made (w1.alloc (Obj.cells (madeCells #[Value.int IntKind.i64 0] (n + 1)) 3)) (Value.int .i64 0) (n + 1) 3
      have r3 := r1.alloc (Obj.cells (madeCells #[Value.int IntKind.i64 0] (n + 1)) 3)
      have s1 : w1.Since w1.heap.size ((w1.alloc (Obj.cells (madeCells #[Value.int IntKind.i64 0] (n + 1)) 3)).alloc (Obj.cells (madeCells #[Value.int IntKind.i64 0] (n + 1)) 3)) := ((World.Since.refl _ _).alloc (Nat.le_refl _) _).alloc (by simp) _
      have s2 := since_join hs01 s1
      rw [show (w1.alloc (Obj.cells (madeCells #[Value.int IntKind.i64 0] (n + 1)) 3)).heap.size = w1.heap.size + 1 by simp] at r2
      go_wp2
      go_meet
    case rel => exact ⟨w1.heap.size, w1.heap.size + 1, rfl, rfl, by omega, by omega, by omega, s1.drew, Lib.hid ⟨s2.drew, r3.drew, r2.drew⟩⟩
    case rel => exact ⟨w1.heap.size + 1, w1.heap.size, rfl, rfl, by omega, by omega, by omega, s1.drew, Lib.hid ⟨s2.drew, r2.drew, r3.drew⟩⟩
  case rest =>
    obtain ⟨bl, bf, rfl, rfl, hbl, hbf, hne, hs1, hP⟩ := hcut
    clear hmk2 hwn
    have HT0 : Hid (Tab (fn l) (fn o) (fn k) 0 (fun _ => 0) (fun _ => 0)) := Lib.hid tab_start
    go_wp2
    go_loopg [9] n (fun gh tv wr => ∃ (t : Nat) (le : Nat → Int) (fr : Nat → Nat), t ≤ n ∧ gh = n - t ∧ tv = .int .i64 ((t : Int) + 1) ∧ Hid (Tab (fn l) (fn o) (fn k) t le fr) ∧ w1.Since w1.heap.size wr ∧ Hid (PlanW w wr bl bf (n + 1) le fr))
    case atStart => exact ⟨0, _, _, Nat.zero_le _, rfl, rfl, HT0, hs1, hP⟩
    case round =>
      clear hs1 hP HT0
      obtain ⟨t, le, fr, htn, rfl, rfl, hT, hs1, hP⟩ := hrel
      by_cases ht : t < n
      · have htz : (t : Int) + 1 ≤ (n : Int) := by omega
        obtain ⟨wq, rfl⟩ : ∃ wq, wq = wr := ⟨_, rfl⟩
        go_wp2
        go_loopg [10, 11, 12] (t + 1) (fun gh bv kv iv wr => ∃ (s a : Nat) (best kp : Int) (fr' : Nat → Nat), s ≤ t + 1 ∧ gh = t + 1 - s ∧ iv = .int .i64 ((t : Int) - s) ∧ bv = .int .i64 best ∧ kv = .int .i64 kp ∧ 0 ≤ kp ∧ kp ≤ 2500000000000000 ∧ Hid (kp = kpN (fn l) (fn k) (t + 1) s) ∧ -1 ≤ best ∧ best ≤ 6000000000000000 ∧ Hid (BestOf (fn l) (fn o) (fn k) (t + 1) s le best a) ∧ Hid (0 < s → fr' (t + 1) = a) ∧ Hid (∀ i, i ≤ t → fr' i = fr i) ∧ w1.Since w1.heap.size wr ∧ Hid (PlanW w wr bl bf (n + 1) le fr'))
        case atStart => exact ⟨0, 0, -1, 0, fr, Nat.zero_le _, rfl, by go_num, rfl, rfl, by omega, by omega, Lib.hid rfl, by omega, by omega, Lib.hid (.inl ⟨rfl, rfl⟩), Lib.hid (fun h => by omega), Lib.hid (fun _ _ => rfl), hs1, hP⟩
        case round =>
          clear hs1 hP
          obtain ⟨s, a, best, kp, fr', hst, rfl, rfl, rfl, rfl, k0, k1, hkp, be0, be1, hB, hfa, hfr, hs1, hP⟩ := hrel
          by_cases hs : s ≤ t
          · -- SKIP
            obtain ⟨i, hi⟩ : ∃ i : Nat, i = t - s := ⟨_, rfl⟩
            have hiz : (t : Int) - s = (i : Int) := by omega
            rw [hiz]
            clear hiz
            have hin : i < n := by omega
            have hi1 : i + s ≤ t := by omega
            have hi2 : t ≤ i + s := by omega
            have Hi := Lib.hid hi
            clear hi
            obtain ⟨bA, oA, rfl, hbA, hcA⟩ := HL.out i hin
            obtain ⟨bB, oB, rfl, hbB, hcB⟩ := HOr.out i hin
            obtain ⟨bC, oC, rfl, hbC, hcC⟩ := HKe.out i hin
            have e0 : wr.cell? ⟨w.heap.size, 0, none⟩ = some (.slice (some ⟨bA, oA, none⟩) n ca) := by rw [hs1.cell (show w.heap.size < w1.heap.size from hz1)]; exact b0
            have e1 : wr.cell? ⟨w.heap.size, 1, none⟩ = some (.slice (some ⟨bB, oB, none⟩) n cb) := by rw [hs1.cell (show w.heap.size < w1.heap.size from hz1)]; exact b1
            have e2 : wr.cell? ⟨w.heap.size, 2, none⟩ = some (.slice (some ⟨bC, oC, none⟩) n cc) := by rw [hs1.cell (show w.heap.size < w1.heap.size from hz1)]; exact b2
            have f0 := hcA i hin
            have f1 := hcB i hin
            have f2 := hcC i hin
            rw [← hP.out.since.cell (show bA < w.heap.size from hbA)] at f0
            rw [← hP.out.since.cell (show bB < w.heap.size from hbB)] at f1
            rw [← hP.out.since.cell (show bC < w.heap.size from hbC)] at f2
            have g0 := hP.out.rowl.cell (i := i) (by omega)
            have g1 := hP.out.rowf.cell (i := t + 1) (by omega)
            have g2 := hP.out.rowf.frozen (t + 1)
            have HcA := Lib.hid hcA
            clear hcA hcB hcC
            have hz2 : (i : Int) + 1 ≤ (t : Int) + 1 := by omega
            have hz3 : (t : Int) + 1 ≤ (ca : Int) := by omega
            have hz4 : (ca : Int) ≤ 9223372036854775807 := by omega
            go_upto_region 15 with fail
            go_cut [51, 52, 53] (fun sv lv jv wx => ∃ (A' : Addr) (c' : Nat), sv = .slice (some A') (t - i) c' ∧ lv = .int .i64 ((t - i : Nat) : Int) ∧ jv = .int .i64 0 ∧ Hid (i < t → A' = ⟨bA, oA + (i + 1), none⟩) ∧ wr = wx)
            case first => as_aux_lemma =>
              by_cases hcc : (i : Int) + 1 < (ca : Int)
              · go_wp2
                go_meet
                case rel => exact ⟨⟨bA, oA + (i + 1), none⟩, ca - (i + 1), rfl, rfl, rfl, Lib.hid (fun _ => rfl), rfl⟩
              · have hcc2 : (ca : Int) = (i : Int) + 1 := by omega
                go_wp2
                go_meet
                case rel => exact ⟨⟨bA, oA, none⟩, ca - (i + 1), rfl, rfl, rfl, Lib.hid (fun h => by omega), rfl⟩
            case rest =>
              obtain ⟨A', c', rfl, rfl, rfl, hA', rfl⟩ := hcut
              go_wp2
              go_loopg [13, 53] (t - i) (fun gh lv jv wr2 => ∃ (j : Nat) (lt : Int), j ≤ t - i ∧ gh = t - i - j ∧ jv = .int .i64 j ∧ lv = .int .i64 lt ∧ 0 ≤ lt ∧ lt ≤ 50000000 ∧ Hid (lt = pre (fn l) (i + 1 + j) - pre (fn l) (i + 1)) ∧ wr = wr2)
              case atStart => exact ⟨0, 0, Nat.zero_le _, rfl, rfl, rfl, by omega, by omega, Lib.hid (by rw [Nat.add_zero]; omega), rfl⟩
              case round =>
                obtain ⟨j, lt, hj, rfl, rfl, rfl, l0, l1, hlt, rfl⟩ := hrel
                by_cases hjt : j < t - i
                · have hjz : (j : Int) < ((t - i : Nat) : Int) := by omega
                  obtain rfl := hA'.out (by omega)
                  have c0 := HcA.out (i + 1 + j) (by omega)
                  rw [← hP.out.since.cell (show bA < w.heap.size from hbA), show oA + (i + 1 + j) = oA + (i + 1) + j by omega] at c0
                  have hx := HW.out (i + 1 + j)
                  have hpb := pre_bd HW.out (i + 1 + (j + 1))
                  have hpm := pre_mono (fun t => (HW.out t).1) (show i + 1 ≤ i + 1 + (j + 1) by omega)
                  have hp0 := pre_bd HW.out (i + 1)
                  have hpe : pre (fn l) (i + 1 + (j + 1)) = pre (fn l) (i + 1 + j) + fn l (i + 1 + j) := rfl
                  have hlt2 := hlt.out
                  have hb1 : 0 ≤ lt + fn l (i + 1 + j) := by omega
                  have hb2 : lt + fn l (i + 1 + j) ≤ 50000000 := by omega
                  have Hlt2 : Hid (lt + fn l (i + 1 + j) = pre (fn l) (i + 1 + (j + 1)) - pre (fn l) (i + 1)) := Lib.hid (by omega)
                  clear hpb hpm hp0 hpe hlt2
                  generalize fn l (i + 1 + j) = xv at *
                  go_wp2
                  go_roundg (t - i - (j + 1))
                  case measure => go_light; omega
                  case rel =>
                    go_light
                    exact ⟨j + 1, lt + xv, by omega, rfl, by go_num, rfl, hb1, hb2, Hlt2, rfl⟩
                · obtain rfl : t - i = j := by omega
                  have hfl := HW.out i
                  have hfo := HO.out i
                  have hfk := HK.out i
                  have hle := hT.out.bd i (by omega)
                  have e3 : i + 1 + (t - i) = t + 1 := by omega
                  have hlt2 := hlt.out
                  rw [e3] at hlt2
                  have hp0 : 0 ≤ lt * fn k i := Int.mul_nonneg l0 hfk.1
                  have hp1 : lt * fn k i ≤ 50000000 * 1000000 := Int.mul_le_mul l1 hfk.2 hfk.1 (by omega)
                  have e4 : t + 1 - s = i + 1 := by omega
                  have e5 : t + 1 - s - 1 = i := by omega
                  have hkp2 : kp + lt * fn k i = kpN (fn l) (fn k) (t + 1) (s + 1) := by
                    rw [hkp.out, hlt2]
                    show _ = kpN (fn l) (fn k) (t + 1) s + (pre (fn l) (t + 1) - pre (fn l) (t + 1 - s)) * fn k (t + 1 - s - 1)
                    rw [e5, e4]
                  have hkb := kpN_bd HW.out HK.out (t := t + 1) (by omega) (s + 1)
                  rw [← hkp2] at hkb
                  have hk2 : kp + lt * fn k i ≤ 2500000000000000 := by omega
                  have hblk := blk_at (w := fn l) (O := fn o) (K := fn k) (t := t + 1) (s := s) (by omega)
                  rw [e5, e4, ← hlt2, ← hkp.out] at hblk
                  have hbb := best_bd HW.out HK.out HO.out (t := t) (by omega) hT.out hB.out
                  have hbt := best_take (t := t + 1) (s := s) (le := le) (w := fn l) (O := fn o) (K := fn k) (by omega) hB.out
                  have hbk := best_keep (t := t + 1) (s := s) (le := le) (w := fn l) (O := fn o) (K := fn k) (by omega) hB.out
                  rw [e5, hblk] at hbt hbk
                  have Hkp2 := Lib.hid hkp2
                  have Hbt := Lib.hid hbt
                  have Hbk := Lib.hid hbk
                  have hbs := hbb.2.2
                  clear hkp2 hbt hbk hblk hlt2 hlt hkp hkb hbb e3 e4 e5
                  generalize fn l i = fl at *
                  generalize fn o i = fo at *
                  generalize fn k i = fk at *
                  generalize le i = lei at *
                  obtain ⟨l2, l3⟩ := hfl
                  obtain ⟨o2, o3⟩ := hfo
                  obtain ⟨m2, m3⟩ := hle
                  clear hfk
                  have hbf2 : w.heap.size ≤ bf := by omega
                  by_cases hpos : 0 < lt + fl
                  · rw [if_pos hpos] at Hbt Hbk
                    by_cases hs0 : s = 0
                    · have hbz : best < 0 := by
                        rcases hB.out with ⟨_, h2⟩ | ⟨h2, _⟩
                        · omega
                        · omega
                      have hres := Hbt.out (.inl hs0)
                      have Hres := Lib.hid hres
                      clear hres hs0
                      go_wp2
                      go_roundg (t + 1 - (s + 1))
                      case measure => go_light; omega
                      case rel =>
                        go_light
                        exact ⟨s + 1, i, _, kp + lt * fk, fun j => if j = t + 1 then i else fr' j, by omega, rfl, congrArg (Value.int .i64) (by omega), rfl, rfl, by omega, by omega, Hkp2, by omega, by omega, by simpa [Int.add_assoc] using Hres, Lib.hid (fun _ => if_pos rfl), Lib.hid (fun j hj => by rw [← hfr.out j hj]; exact if_neg (by omega)), hs1.setCell (show w1.heap.size ≤ bf from hbf) _, Lib.hid (hP.out.setf hbf2 hne (t + 1) i)⟩
                    · have hb0 := hbs (by omega)
                      by_cases hlt : lei + (kp + lt * fk) + fo < best
                      · have hres := Hbt.out (.inr (by omega))
                        have Hres := Lib.hid hres
                        clear hres hs0
                        go_wp2
                        go_roundg (t + 1 - (s + 1))
                        case measure => go_light; omega
                        case rel =>
                          go_light
                          exact ⟨s + 1, i, _, kp + lt * fk, fun j => if j = t + 1 then i else fr' j, by omega, rfl, congrArg (Value.int .i64) (by omega), rfl, rfl, by omega, by omega, Hkp2, by omega, by omega, by simpa [Int.add_assoc] using Hres, Lib.hid (fun _ => if_pos rfl), Lib.hid (fun j hj => by rw [← hfr.out j hj]; exact if_neg (by omega)), hs1.setCell (show w1.heap.size ≤ bf from hbf) _, Lib.hid (hP.out.setf hbf2 hne (t + 1) i)⟩
                      · have hge : best ≤ lei + (kp + lt * fk) + fo := by omega
                        have hres := Hbk.out hb0 (by omega)
                        have Hres := Lib.hid hres
                        have hs3 : 0 < s := by omega
                        clear hres hlt hs0
                        go_wp2
                        go_roundg (t + 1 - (s + 1))
                        case measure => go_light; omega
                        case rel =>
                          go_light
                          exact ⟨s + 1, a, best, kp + lt * fk, fr', by omega, rfl, congrArg (Value.int .i64) (by omega), rfl, rfl, by omega, by omega, Hkp2, by omega, by omega, Hres, Lib.hid (fun _ => hfa.out hs3), hfr, hs1, hP⟩
                  · have hpos' : lt + fl ≤ 0 := by omega
                    rw [if_neg hpos] at Hbt Hbk
                    clear hpos
                    by_cases hs0 : s = 0
                    · have hbz : best < 0 := by
                        rcases hB.out with ⟨_, h2⟩ | ⟨h2, _⟩
                        · omega
                        · omega
                      have hres := Hbt.out (.inl hs0)
                      have Hres := Lib.hid hres
                      clear hres hs0
                      go_wp2
                      go_roundg (t + 1 - (s + 1))
                      case measure => go_light; omega
                      case rel =>
                        go_light
                        exact ⟨s + 1, i, _, kp + lt * fk, fun j => if j = t + 1 then i else fr' j, by omega, rfl, congrArg (Value.int .i64) (by omega), rfl, rfl, by omega, by omega, Hkp2, by omega, by omega, by simpa [Int.add_assoc] using Hres, Lib.hid (fun _ => if_pos rfl), Lib.hid (fun j hj => by rw [← hfr.out j hj]; exact if_neg (by omega)), hs1.setCell (show w1.heap.size ≤ bf from hbf) _, Lib.hid (hP.out.setf hbf2 hne (t + 1) i)⟩
                    · have hb0 := hbs (by omega)
                      by_cases hlt : lei + (kp + lt * fk) < best
                      · have hres := Hbt.out (.inr (by omega))
                        have Hres := Lib.hid hres
                        clear hres hs0
                        go_wp2
                        go_roundg (t + 1 - (s + 1))
                        case measure => go_light; omega
                        case rel =>
                          go_light
                          exact ⟨s + 1, i, _, kp + lt * fk, fun j => if j = t + 1 then i else fr' j, by omega, rfl, congrArg (Value.int .i64) (by omega), rfl, rfl, by omega, by omega, Hkp2, by omega, by omega, by simpa [Int.add_assoc] using Hres, Lib.hid (fun _ => if_pos rfl), Lib.hid (fun j hj => by rw [← hfr.out j hj]; exact if_neg (by omega)), hs1.setCell (show w1.heap.size ≤ bf from hbf) _, Lib.hid (hP.out.setf hbf2 hne (t + 1) i)⟩
                      · have hge : best ≤ lei + (kp + lt * fk) := by omega
                        have hres := Hbk.out hb0 (by omega)
                        have Hres := Lib.hid hres
                        have hs3 : 0 < s := by omega
                        clear hres hlt hs0
                        go_wp2
                        go_roundg (t + 1 - (s + 1))
                        case measure => go_light; omega
                        case rel =>
                          go_light
                          exact ⟨s + 1, a, best, kp + lt * fk, fr', by omega, rfl, congrArg (Value.int .i64) (by omega), rfl, rfl, by omega, by omega, Hkp2, by omega, by omega, Hres, Lib.hid (fun _ => hfa.out hs3), hfr, hs1, hP⟩
          · have hst2 : s = t + 1 := by omega
            have hsz : (t : Int) - s = -1 := by omega
            rw [hsz]
            clear hsz
            rw [hst2] at hB hfa
            have HB := hB
            have Hfa := hfa
            clear hst2 hs hB hfa
            have g3 := hP.out.rowl.cell (i := t + 1) (by omega)
            have g4 := hP.out.rowl.frozen (t + 1)
            have hbl2 : w.heap.size ≤ bl := by omega
            have HT2 : Hid (Tab (fn l) (fn o) (fn k) (t + 1) (fun j => if j = t + 1 then best else le j) fr') := Lib.hid (tab_next HW.out HK.out HO.out (by omega) hT.out HB.out _ _ (fun j hj => if_neg (by omega)) (if_pos rfl) hfr.out (Hfa.out (by omega)))
            go_wp2
            go_roundg (n - (t + 1))
            case measure => go_light; omega
            case rel =>
              go_light
              exact ⟨t + 1, _, fr', by omega, rfl, by go_num, HT2, hs1.setCell (show w1.heap.size ≤ bl from hbl) _, Lib.hid (hP.out.setl hbl2 hne (t + 1) best)⟩
      · obtain rfl : n = t := by omega
        have hmk := run_make_row' (P := Try.prog) 22 3 (.int .i64 0) 8 Try.underlying22 info_int rfl .i64 .i64 n (by omega) (by omega)
        -- ITER
        go_wp2
        clear hmk
        have r1 := World.rowIs_made wr (Value.int .i64 0) n 3
        have hP2 : PlanW w (wr.alloc (Obj.cells (madeCells #[Value.int .i64 0] n) 3)) bl bf (n + 1) le fr := ⟨hP.out.since.alloc hP.out.since.size _, hP.out.rowl.alloc _, hP.out.rowf.alloc _⟩
        have hs2 : w1.Since w1.heap.size (wr.alloc (Obj.cells (madeCells #[Value.int .i64 0] n) 3)) := hs1.alloc hs1.size _
        have hbo1 : w1.heap.size ≤ wr.heap.size := hs1.size
        have hbo2 : bl ≠ wr.heap.size := by have := hP.out.rowl.lt; omega
        have hbo3 : bf ≠ wr.heap.size := by have := hP.out.rowf.lt; omega
        have HP2 := Lib.hid hP2
        have HS0 : Hid (Suffix (fn l) (fn o) (fn k) n le n (fun _ => 0)) := Lib.hid (suffix_start n le)
        clear hP2 hs1 hP
        generalize wr.alloc (Obj.cells (madeCells #[Value.int .i64 0] n) 3) = w4 at *
        generalize wr.heap.size = bo at *
        go_loopg [18] n (fun gh tv wr => ∃ (t : Nat) (x : Nat → Int), t ≤ n ∧ t = gh ∧ tv = .int .i64 t ∧ Hid (Suffix (fn l) (fn o) (fn k) n le t x) ∧ w1.Since w1.heap.size wr ∧ Hid (PlanW w wr bl bf (n + 1) le fr) ∧ Hid (wr.rowIs bo 3 n (fun i => .int .i64 (x i))))
        case atStart => exact ⟨n, _, Nat.le_refl _, rfl, rfl, HS0, hs2, HP2, Lib.hid r1⟩
        case round =>
          clear r1 hs2 HP2 HS0
          obtain ⟨t, x, htn, rfl, rfl, hS, hs1, hP, hR⟩ := hrel
          by_cases ht : 0 < t
          · have htz : (0 : Int) < (t : Int) := by omega
            have hf1 := hT.out.tab.lt t ht htn
            obtain ⟨bA, oA, rfl, hbA, hcA⟩ := HL.out 0 (by omega)
            have e0 : wr.cell? ⟨w.heap.size, 0, none⟩ = some (.slice (some ⟨bA, oA, none⟩) n ca) := by rw [hs1.cell (show w.heap.size < w1.heap.size from hz1)]; exact b0
            have g1 := hP.out.rowf.cell (i := t) (by omega)
            have HcA := Lib.hid hcA
            clear hcA
            obtain ⟨f, hf⟩ : ∃ f, f = fr t := ⟨_, rfl⟩
            rw [← hf] at g1 hf1
            have Hf := Lib.hid hf
            clear hf
            have hfz : (f : Int) < (t : Int) := by omega
            have hfz1 : (f : Int) ≤ (t : Int) := by omega
            have hfz2 : (f : Int) < (ca : Int) := by omega
            have hfz3 : (t : Int) ≤ (ca : Int) := by omega
            have hz4 : (ca : Int) ≤ 9223372036854775807 := by omega
            go_wp2
            go_quiet (fail)
            go_wp2
            have hs2 : w1.Since w1.heap.size (wr.drewN nq) := since_drewN hs1 nq
            have hP2 : PlanW w (wr.drewN nq) bl bf (n + 1) le fr := ⟨since_drewN hP.out.since nq, hP.out.rowl, hP.out.rowf⟩
            have HP2 := Lib.hid hP2
            have hR2 : (wr.drewN nq).rowIs bo 3 n (fun i => .int .i64 (if i = f then pre (fn l) (f + 0) - pre (fn l) f else x i)) := World.rowIs.congr (w := wr) hR.out (fun i hi => by
              by_cases e : i = f
              · rw [if_pos e, Nat.add_zero, Int.sub_self, e, hS.out.low f hf1]
              · rw [if_neg e])
            have HR2 := Lib.hid hR2
            clear hs1 hP hR hP2 hR2 e0 g1
            generalize wr.drewN nq = wr at *
            go_loopg [125] (t - f) (fun gh jv wr => ∃ j : Nat, j ≤ t - f ∧ gh = t - f - j ∧ jv = .int .i64 j ∧ w1.Since w1.heap.size wr ∧ Hid (PlanW w wr bl bf (n + 1) le fr) ∧ Hid (wr.rowIs bo 3 n (fun i => .int .i64 (if i = f then pre (fn l) (f + j) - pre (fn l) f else x i))))
            case atStart => exact ⟨0, Nat.zero_le _, rfl, rfl, hs2, HP2, HR2⟩
            case round =>
              clear hs2 HP2 HR2
              obtain ⟨j, hj, rfl, rfl, hs1, hP, hR⟩ := hrel
              by_cases hjt : j < t - f
              · have hjz : (j : Int) < ((t - f : Nat) : Int) := by omega
                have c0 := HcA.out (f + j) (by omega)
                rw [← hP.out.since.cell (show bA < w.heap.size from hbA), ← Nat.add_assoc] at c0
                have g1 := hP.out.rowf.cell (i := t) (by omega)
                rw [← Hf.out] at g1
                have g3 := hR.out.cell (i := f) (by omega)
                have g4 := hR.out.frozen f
                rw [if_pos rfl] at g3
                have hx := HW.out (f + j)
                have hpb := pre_bd HW.out (f + (j + 1))
                have hpm := pre_mono (fun t => (HW.out t).1) (show f ≤ f + (j + 1) by omega)
                have hp0 := pre_bd HW.out f
                have hpe : pre (fn l) (f + (j + 1)) = pre (fn l) (f + j) + fn l (f + j) := rfl
                obtain ⟨pv, hpv⟩ : ∃ pv, pv = pre (fn l) (f + j) - pre (fn l) f := ⟨_, rfl⟩
                rw [← hpv] at g3
                have hb1 : 0 ≤ pv + fn l (f + j) := by omega
                have hb2 : pv + fn l (f + j) ≤ 50000000 := by omega
                have Hpv : Hid (pv + fn l (f + j) = pre (fn l) (f + (j + 1)) - pre (fn l) f) := Lib.hid (by omega)
                clear hpb hpm hp0 hpe hpv
                have hfn : (f : Int) < (n : Int) := by omega
                generalize fn l (f + j) = xv at *
                go_wp2
                go_roundg (t - f - (j + 1))
                case measure => go_light; omega
                case rel =>
                  go_light
                  refine ⟨j + 1, by omega, rfl, by go_num, hs1.setCell (show w1.heap.size ≤ bo from hbo1) _, Lib.hid ⟨hP.out.since.setCell (show w.heap.size ≤ bo by omega) _, hP.out.rowl.setOther (a := ⟨bo, f, none⟩) hbo2 _, hP.out.rowf.setOther (a := ⟨bo, f, none⟩) hbo3 _⟩, Lib.hid ((hR.out.set f _).congr (fun i hi => ?_))⟩
                  by_cases e : i = f
                  · rw [if_pos e, if_pos e, Hpv.out]
                  · rw [if_neg e, if_neg e, if_neg e]
              · have hjt2 : f + j = t := by omega
                have HS2 : Hid (Suffix (fn l) (fn o) (fn k) n le f (fun u => if u = f then pre (fn l) t - pre (fn l) f else x u)) := Lib.hid (by
                  have := hS.out.step (fun t => (HW.out t).1) hT.out.tab ht
                  rw [← Hf.out] at this
                  exact this)
                have HR2 : Hid (wr.rowIs bo 3 n (fun i => .int .i64 ((fun u => if u = f then pre (fn l) t - pre (fn l) f else x u) i))) := Lib.hid (by
                  have := hR.out
                  rw [hjt2] at this
                  exact this)
                have g1 := hP.out.rowf.cell (i := t) (by omega)
                rw [← Hf.out] at g1
                obtain rfl : t - f = j := by omega
                clear hjt2
                go_wp2
                go_roundg f
                case measure => go_light; omega
                case rel =>
                  go_light
                  exact ⟨f, _, by omega, rfl, rfl, HS2, hs1, hP, HR2⟩
          · obtain rfl : 0 = t := by omega
            have g1 := hP.out.rowl.cell (i := n) (by omega)
            have HPL : Hid (PlanOk l o k x (le n)) := Lib.hid (by
              have h0 := hT.out.tab.zero
              have h1 := hS.out.cost
              have h2 := hS.out.ok
              rw [h0, Nat.sub_zero, Int.sub_zero] at h1
              rw [Nat.sub_zero] at h2
              refine ⟨hS.out.pos, fun u hu => hS.out.high u (by rw [Hn.out]; exact hu), by rw [← Hn.out]; exact h2, by rw [← Hn.out]; exact h1, fun y hy hf => ?_, hT.out.bd n (Nat.le_refl _)⟩
              rw [← Hn.out] at hf ⊢
              exact least_le (fun t => (HW.out t).1) (fun t => (HO.out t).1) (fun t => (HK.out t).1) hT.out.tab hy hf n n (Nat.le_refl _) (Nat.le_refl _))
            go_wp2
            go_quiet (fail)
            go_wp2
            go_ret3
            exact ⟨since_drewN hP.out.since _, bo, x, le n, by rw [← Hn.out]; rfl, by omega, by rw [← Hn.out]; exact hR.out, HPL.out⟩
end Go.Proofs.Ytimohdhmglpleaa
