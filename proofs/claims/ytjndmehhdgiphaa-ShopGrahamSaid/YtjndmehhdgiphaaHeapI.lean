/- container/heap.Init over what is a heap already. (From the template XHeapI.) -/
import Derived.Test.YtjndmehhdgiphaaHeapW
namespace Go.Proofs.Ytjndmehhdgiphaa
open Go.RowKit HeapM
section
variable {α : Type} {t : TypeId} {r : Value} {lt : α → α → Bool} {d : α} {val : α → Value} {C : World → List α → Prop}
set_option maxHeartbeats 4000000 in
theorem init_any (I : HeapI t r lt d val C) (o : Ord lt) {l : List α} {w : World} (h : C w l) (hH : Heap lt d l.length l) (hn : l.length ≤ 1000000) :
    Calls Try.prog 25 #[.iface t r] w (UpPost lt d C l) := by
  have hH2 := Lib.hid hH
  obtain ⟨f, v, mL, eL, cL⟩ := I.len w l h
  obtain ⟨q, hq⟩ : ∃ q : Nat, (l.length : Int).tdiv 2 = (q : Int) := ⟨l.length / 2, by rw [Int.tdiv_eq_ediv_of_nonneg (by omega)]; omega⟩
  have hq2 : (q : Int) ≤ 1000000 := by rw [← hq, Int.tdiv_eq_ediv_of_nonneg (by omega)]; omega
  clear h hH
  unfold Enters at eL
  go_enter Try.func25, Try.ntmps25
  go_wp2_with fail
  refine cL.mono ?_
  rintro e w1 ⟨rfl, hC⟩
  have HC := Lib.hid hC
  clear hC mL eL cL
  go_wp2
  go_loopg [3] q (fun gh iv wr => ∃ (k : Int) (l' : List α), iv = .int .i64 k ∧ -1 ≤ k ∧ k ≤ 1000000 ∧ gh = (k + 1).toNat ∧ l'.length = l.length ∧ Hid (C wr l') ∧ Hid (l'.Perm l) ∧ Hid (Heap lt d l'.length l'))
  case atStart => exact ⟨(q : Int) - 1, l, rfl, by omega, by omega, by omega, rfl, HC, Lib.hid (List.Perm.refl _), hH2⟩
  case round =>
    clear HC
    obtain ⟨k, l', rfl, hk0, hk1, rfl, hl, hC, hP, hH⟩ := hrel
    by_cases hk : 0 ≤ k
    · obtain ⟨i, rfl⟩ : ∃ i : Nat, k = (i : Int) := ⟨k.toNat, by omega⟩
      have cD := down_any I o hC.out (i := i) (n := l'.length) (down_of_heap o hH.out i) (Nat.le_refl _) (by omega) (by omega)
      rw [hl] at cD
      have CD := Lib.hid cD
      have HL := Lib.hid hl
      clear cD hC hH hq hq2 hk hl
      go_wp2_with fail
      refine CD.out.mono ?_
      rintro e w2 ⟨⟨b, rfl⟩, l2, hC2, hP2, hH2', _⟩
      have HC2 := Lib.hid hC2
      have HP2 := Lib.hid (hP2.trans hP.out)
      have HL2 : Hid (l2.length = l.length) := Lib.hid (hP2.length_eq.trans HL.out)
      have HH2 : Hid (Heap lt d l2.length l2) := Lib.hid (by rw [HL2.out]; exact hH2')
      clear hC2 hP2 hH2' CD
      go_wp2
      go_roundg i
      case measure => go_light; omega
      case rel => go_light; exact ⟨(i : Int) - 1, l2, rfl, by omega, by omega, by omega, HL2.out, HC2, HP2, HH2⟩
    · have hk' : k < 0 := by omega
      go_wp2
      go_end0
      exact ⟨rfl, l', hC.out, hP.out, hH.out⟩
end
end Go.Proofs.Ytjndmehhdgiphaa
