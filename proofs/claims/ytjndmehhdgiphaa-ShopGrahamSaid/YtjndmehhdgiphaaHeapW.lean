/- container/heap over anything that answers as a heap.Interface. (From the template XHeapW; 192 by hand.) -/
import Derived.Test.YtjndmehhdgiphaaLib
import Derived.Test.YtjndmehhdgiphaaHeapM
import Derived.Deep.LoopGhost
import Derived.Deep.DeepCutAuto
import Derived.Deep.QuietTactic
import Derived.BigQuiet
import Derived.RegionTactic
namespace Go.Proofs.Ytjndmehhdgiphaa
open Go.RowKit HeapM

/-- f is one of the program's own functions -/
def Enters (f : FuncId) : Prop := ∀ args w, (callFunc f args).run Try.prog w = .ok (.enter f args) w
/-- what a heap.Interface does: `C` says which list it holds -/
structure HeapI {α : Type} (t : TypeId) (r : Value) (lt : α → α → Bool) (d : α) (val : α → Value) (C : World → List α → Prop) : Prop where
  less : ∀ W l (i k : Nat), C W l → i < l.length → k < l.length → ∃ f v, (method 192 t r "Less").run Try.prog W = .ok (f, v) W ∧ Enters f ∧ Calls Try.prog f #[v, .int .i64 (i : Int), .int .i64 (k : Int)] W fun e w' => e = .returned (.bool (lt (l.getD i d) (l.getD k d))) ∧ C w' l
  swap : ∀ W l (i k : Nat), C W l → i < l.length → k < l.length → ∃ f v, (method 192 t r "Swap").run Try.prog W = .ok (f, v) W ∧ Enters f ∧ Calls Try.prog f #[v, .int .i64 (i : Int), .int .i64 (k : Int)] W fun e w' => e = .returned (.tuple #[]) ∧ C w' (sw d l i k)
  len : ∀ W l, C W l → ∃ f v, (method 192 t r "Len").run Try.prog W = .ok (f, v) W ∧ Enters f ∧ Calls Try.prog f #[v] W fun e w' => e = .returned (.int .i64 (l.length : Int)) ∧ C w' l
  push : ∀ W l x, C W l → l.length ≤ 1000000 → ∃ f v, (method 192 t r "Push").run Try.prog W = .ok (f, v) W ∧ Enters f ∧ Calls Try.prog f #[v, val x] W fun e w' => e = .returned (.tuple #[]) ∧ C w' (l ++ [x])
  pop : ∀ W l x, C W (l ++ [x]) → ∃ f v, (method 192 t r "Pop").run Try.prog W = .ok (f, v) W ∧ Enters f ∧ Calls Try.prog f #[v] W fun e w' => e = .returned (val x) ∧ C w' l
section
variable {α : Type} {t : TypeId} {r : Value} {lt : α → α → Bool} {d : α} {val : α → Value} {C : World → List α → Prop}
def UpPost (lt : α → α → Bool) (d : α) (C : World → List α → Prop) (l : List α) (e : Ending) (w' : World) : Prop := e = .returned (.tuple #[]) ∧ ∃ l', C w' l' ∧ l'.Perm l ∧ Heap lt d l'.length l'
def upF (j : Nat) : Int := ((j : Int) - 1).tdiv 2
theorem upF_pos {j : Nat} (h : 0 < j) : upF j = (((j - 1) / 2 : Nat) : Int) := by
  unfold upF
  rw [Int.tdiv_eq_ediv_of_nonneg (by omega)]
  omega
theorem upF_zero : upF 0 = 0 := rfl
set_option maxHeartbeats 4000000 in
theorem up_any (I : HeapI t r lt d val C) (o : Ord lt) {l : List α} {j : Nat} {w : World} (h : C w l) (hU : Up lt d l.length l j) (hj : j < l.length) (hn : l.length ≤ 1000001) :
    Calls Try.prog 33 #[.iface t r, .int .i64 (j : Int)] w (UpPost lt d C l) := by
  have Hh := Lib.hid h
  have HU := Lib.hid hU
  clear h hU
  go_enter Try.func33, Try.ntmps33
  go_wp2
  go_loopg [1] j (fun gh jv wr => ∃ (k : Nat) (l' : List α), k = gh ∧ jv = .int .i64 (k : Int) ∧ k < l'.length ∧ l'.length = l.length ∧ Hid (C wr l') ∧ Hid (l'.Perm l) ∧ Hid (Up lt d l'.length l' k))
  case atStart => exact ⟨j, l, rfl, rfl, hj, rfl, Hh, Lib.hid (List.Perm.refl _), HU⟩
  case round =>
    clear Hh HU hj
    obtain ⟨k, l', rfl, rfl, hk, hl, hC, hP, hU⟩ := hrel
    by_cases h0 : k = 0
    · subst h0
      go_wp2
      go_end0
      exact ⟨rfl, l', hC.out, hP.out, up_stop hU.out (.inl rfl)⟩
    · obtain ⟨i, hi⟩ : ∃ i, i = (k - 1) / 2 := ⟨_, rfl⟩
      have hu : ((k : Int) - 1).tdiv 2 = (i : Int) := by rw [hi]; exact upF_pos (by omega)
      have hik : (i : Int) < (k : Int) := by omega
      have hil : i < l'.length := by omega
      have Hi := Lib.hid hi
      clear hi
      obtain ⟨f, v, mL, eL, cL⟩ := I.less wr l' k i hC.out hk hil
      unfold Enters at eL
      go_upto_if 15 with fail
      refine cL.mono ?_
      rintro e w1 ⟨rfl, hC1⟩
      clear mL eL cL hC
      cases hlt : lt (l'.getD k d) (l'.getD i d) with
      | false =>
        rw [Hi.out] at hlt
        go_wp2
        go_end0
        exact ⟨rfl, l', hC1, hP.out, up_stop hU.out (.inr hlt)⟩
      | true =>
        rw [Hi.out] at hlt
        have HC1 := Lib.hid hC1
        have Hlt := Lib.hid hlt
        clear hC1 hlt
        obtain ⟨f, v, mS, eS, cS⟩ := I.swap w1 l' i k HC1.out hil hk
        unfold Enters at eS
        go_wp2_with fail
        refine cS.mono ?_
        rintro e w2 ⟨rfl, hC2⟩
        have HC2 := Lib.hid hC2
        clear hC2 mS eS cS HC1
        go_wp2
        go_roundg i
        case measure => go_light; omega
        case rel =>
          go_light
          refine ⟨i, _, rfl, rfl, by rw [sw_len]; exact hil, (sw_len _ _ _).trans hl, HC2, Lib.hid ((sw_perm _ _ _ hil hk).trans hP.out), Lib.hid ?_⟩
          rw [sw_len, Hi.out]
          exact up_step o hU.out (by omega) hk (Nat.le_refl _) Hlt.out

def DownPost (lt : α → α → Bool) (d : α) (C : World → List α → Prop) (l : List α) (n : Nat) (e : Ending) (w' : World) : Prop := (∃ b, e = .returned (.bool b)) ∧ ∃ l', C w' l' ∧ l'.Perm l ∧ Heap lt d n l' ∧ ∀ k, n ≤ k → l'.getD k d = l.getD k d
set_option maxHeartbeats 4000000 in
theorem down_any (I : HeapI t r lt d val C) (o : Ord lt) {l : List α} {i n : Nat} {w : World} (h : C w l) (hU : Down lt d n l i) (hn : n ≤ l.length) (hb : l.length ≤ 1000001) (hi : i ≤ 1000001) :
    Calls Try.prog 32 #[.iface t r, .int .i64 (i : Int), .int .i64 (n : Int)] w (DownPost lt d C l n) := by
  have Hh := Lib.hid h
  have HU := Lib.hid hU
  have hnb : n ≤ 1000001 := by omega
  clear h hU
  go_enter Try.func32, Try.ntmps32
  go_wp2
  go_loopg [7] (n - i) (fun gh iv wr => ∃ (k : Nat) (l' : List α), gh = n - k ∧ iv = .int .i64 (k : Int) ∧ l'.length = l.length ∧ k ≤ 1000001 ∧ Hid (C wr l') ∧ Hid (l'.Perm l) ∧ Hid (Down lt d n l' k) ∧ Hid (∀ x, n ≤ x → l'.getD x d = l.getD x d))
  case atStart => exact ⟨i, l, rfl, rfl, rfl, hi, Hh, Lib.hid (List.Perm.refl _), HU, Lib.hid (fun _ _ => rfl)⟩
  case round =>
    clear Hh HU hi
    obtain ⟨k, l', rfl, rfl, hl, hkb, hC, hP, hU, hT⟩ := hrel
    have hkz : (k : Int) ≤ 1000001 := by omega
    by_cases h1 : n ≤ 2 * k + 1
    · have h1z : (n : Int) ≤ 2 * (k : Int) + 1 := by omega
      go_wp2
      go_ret
      exact ⟨⟨_, rfl⟩, l', hC.out, hP.out, down_none hU.out h1, hT.out⟩
    · have h1z : 2 * (k : Int) + 1 < (n : Int) := by omega
      by_cases h2 : 2 * k + 2 < n
      · have h2z : 2 * (k : Int) + 1 + 1 < (n : Int) := by omega
        obtain ⟨f, v, mL, eL, cL⟩ := I.less wr l' (2 * k + 2) (2 * k + 1) hC.out (by omega) (by omega)
        rw [show ((2 * k + 2 : Nat) : Int) = 2 * (k : Int) + 1 + 1 by omega, show ((2 * k + 1 : Nat) : Int) = 2 * (k : Int) + 1 by omega] at cL
        unfold Enters at eL
        go_wp2_with fail
        refine cL.mono ?_
        rintro e w1 ⟨rfl, hC1⟩
        have HC := Lib.hid hC1
        clear hC1 mL eL cL hC
        cases hlt : lt (l'.getD (2 * k + 2) d) (l'.getD (2 * k + 1) d) with
        | false =>
          obtain ⟨j, hj⟩ : ∃ j, j = 2 * k + 1 := ⟨_, rfl⟩
          have Hc : Hid (Child lt d n l' k j) := Lib.hid (by rw [hj]; exact child_left o (by omega) (fun _ => hlt))
          have Hjz : Hid ((j : Int) = 2 * (k : Int) + 1) := Lib.hid (by omega)
          clear hj hlt
          have hkl : k < l'.length := by omega
          have hjl : j < l'.length := by have := Hc.out.2.1; omega
          obtain ⟨f, v, mL, eL, cL⟩ := I.less _ l' j k HC.out hjl hkl
          rw [Hjz.out] at cL
          unfold Enters at eL
          go_wp2_with fail
          refine cL.mono ?_
          rintro e w2 ⟨rfl, hC2⟩
          clear mL eL cL HC
          cases hlt : lt (l'.getD j d) (l'.getD k d) with
          | false =>
            go_wp2
            go_ret
            exact ⟨⟨_, rfl⟩, l', hC2, hP.out, down_stop o hU.out Hc.out hlt, hT.out⟩
          | true =>
            have HC2 := Lib.hid hC2
            have Hlt := Lib.hid hlt
            clear hC2 hlt
            obtain ⟨f, v, mS, eS, cS⟩ := I.swap w2 l' k j HC2.out hkl hjl
            rw [Hjz.out] at cS
            unfold Enters at eS
            go_wp2_with fail
            refine cS.mono ?_
            rintro e w3 ⟨rfl, hC3⟩
            have HC3 := Lib.hid hC3
            clear hC3 mS eS cS HC2
            go_wp2
            go_roundg (n - j)
            case measure => go_light; have := Hc.out.1; have := Hc.out.2.1; omega
            case rel =>
              go_light
              refine ⟨j, _, rfl, by rw [Hjz.out], by rw [sw_len]; exact hl, by have := Hc.out.2.1; omega, HC3, Lib.hid ((sw_perm _ _ _ hkl hjl).trans hP.out), Lib.hid (down_step o hU.out Hc.out (by omega) Hlt.out), Lib.hid (fun x hx => ?_)⟩
              have h1 := Hc.out.1
              have h2 := Hc.out.2.1
              rw [sw_get _ _ _ _ hkl hjl, if_neg (by omega), if_neg (by omega)]
              exact hT.out x hx
        | true =>
          obtain ⟨j, hj⟩ : ∃ j, j = 2 * k + 2 := ⟨_, rfl⟩
          have Hc : Hid (Child lt d n l' k j) := Lib.hid (by rw [hj]; exact child_right o h2 hlt)
          have Hjz : Hid ((j : Int) = 2 * (k : Int) + 1 + 1) := Lib.hid (by omega)
          clear hj hlt
          have hkl : k < l'.length := by omega
          have hjl : j < l'.length := by have := Hc.out.2.1; omega
          obtain ⟨f, v, mL, eL, cL⟩ := I.less _ l' j k HC.out hjl hkl
          rw [Hjz.out] at cL
          unfold Enters at eL
          go_wp2_with fail
          refine cL.mono ?_
          rintro e w2 ⟨rfl, hC2⟩
          clear mL eL cL HC
          cases hlt : lt (l'.getD j d) (l'.getD k d) with
          | false =>
            go_wp2
            go_ret
            exact ⟨⟨_, rfl⟩, l', hC2, hP.out, down_stop o hU.out Hc.out hlt, hT.out⟩
          | true =>
            have HC2 := Lib.hid hC2
            have Hlt := Lib.hid hlt
            clear hC2 hlt
            obtain ⟨f, v, mS, eS, cS⟩ := I.swap w2 l' k j HC2.out hkl hjl
            rw [Hjz.out] at cS
            unfold Enters at eS
            go_wp2_with fail
            refine cS.mono ?_
            rintro e w3 ⟨rfl, hC3⟩
            have HC3 := Lib.hid hC3
            clear hC3 mS eS cS HC2
            go_wp2
            go_roundg (n - j)
            case measure => go_light; have := Hc.out.1; have := Hc.out.2.1; omega
            case rel =>
              go_light
              refine ⟨j, _, rfl, by rw [Hjz.out], by rw [sw_len]; exact hl, by have := Hc.out.2.1; omega, HC3, Lib.hid ((sw_perm _ _ _ hkl hjl).trans hP.out), Lib.hid (down_step o hU.out Hc.out (by omega) Hlt.out), Lib.hid (fun x hx => ?_)⟩
              have h1 := Hc.out.1
              have h2 := Hc.out.2.1
              rw [sw_get _ _ _ _ hkl hjl, if_neg (by omega), if_neg (by omega)]
              exact hT.out x hx
      · have h2z : (n : Int) ≤ 2 * (k : Int) + 1 + 1 := by omega
        have HC := hC
        clear hC
        obtain ⟨j, hj⟩ : ∃ j, j = 2 * k + 1 := ⟨_, rfl⟩
        have Hc : Hid (Child lt d n l' k j) := Lib.hid (by rw [hj]; exact child_left o (by omega) (fun h => absurd h h2))
        have Hjz : Hid ((j : Int) = 2 * (k : Int) + 1) := Lib.hid (by omega)
        clear hj
        have hkl : k < l'.length := by omega
        have hjl : j < l'.length := by have := Hc.out.2.1; omega
        obtain ⟨f, v, mL, eL, cL⟩ := I.less _ l' j k HC.out hjl hkl
        rw [Hjz.out] at cL
        unfold Enters at eL
        go_wp2_with fail
        refine cL.mono ?_
        rintro e w2 ⟨rfl, hC2⟩
        clear mL eL cL HC
        cases hlt : lt (l'.getD j d) (l'.getD k d) with
        | false =>
          go_wp2
          go_ret
          exact ⟨⟨_, rfl⟩, l', hC2, hP.out, down_stop o hU.out Hc.out hlt, hT.out⟩
        | true =>
          have HC2 := Lib.hid hC2
          have Hlt := Lib.hid hlt
          clear hC2 hlt
          obtain ⟨f, v, mS, eS, cS⟩ := I.swap w2 l' k j HC2.out hkl hjl
          rw [Hjz.out] at cS
          unfold Enters at eS
          go_wp2_with fail
          refine cS.mono ?_
          rintro e w3 ⟨rfl, hC3⟩
          have HC3 := Lib.hid hC3
          clear hC3 mS eS cS HC2
          go_wp2
          go_roundg (n - j)
          case measure => go_light; have := Hc.out.1; have := Hc.out.2.1; omega
          case rel =>
            go_light
            refine ⟨j, _, rfl, by rw [Hjz.out], by rw [sw_len]; exact hl, by have := Hc.out.2.1; omega, HC3, Lib.hid ((sw_perm _ _ _ hkl hjl).trans hP.out), Lib.hid (down_step o hU.out Hc.out (by omega) Hlt.out), Lib.hid (fun x hx => ?_)⟩
            have h1 := Hc.out.1
            have h2 := Hc.out.2.1
            rw [sw_get _ _ _ _ hkl hjl, if_neg (by omega), if_neg (by omega)]
            exact hT.out x hx

set_option maxHeartbeats 4000000 in
theorem push_any (I : HeapI t r lt d val C) (o : Ord lt) {l : List α} {w : World} (x : α) (h : C w l) (hH : Heap lt d l.length l) (hn : l.length ≤ 1000000) :
    Calls Try.prog 27 #[.iface t r, val x] w (UpPost lt d C (l ++ [x])) := by
  have hH2 := Lib.hid hH
  have hl : (l ++ [x]).length = l.length + 1 := by simp
  obtain ⟨f, v, mP, eP, cP⟩ := I.push w l x h hn
  clear h hH
  unfold Enters at eP
  go_enter Try.func27, Try.ntmps27
  go_wp2_with fail
  refine cP.mono ?_
  rintro e w1 ⟨rfl, hC⟩
  have HC := Lib.hid hC
  clear hC mP eP cP
  obtain ⟨f, v, mL, eL, cL⟩ := I.len w1 _ HC.out
  unfold Enters at eL
  rw [hl] at cL
  go_wp2_with fail
  refine cL.mono ?_
  rintro e w2 ⟨rfl, hC2⟩
  have HC2 := Lib.hid hC2
  clear hC2 mL eL cL HC
  have hz : ((l.length + 1 : Nat) : Int) - 1 = (l.length : Int) := by omega
  go_wp2_with fail
  refine (up_any I o HC2.out (j := l.length) (by rw [hl]; exact up_push hH2.out) (by omega) (by omega)).mono ?_
  rintro e w3 ⟨rfl, l', hC3, hP, hU⟩
  go_wp2
  go_end0
  exact ⟨rfl, l', hC3, hP, hU⟩
def PopP (lt : α → α → Bool) (d : α) (val : α → Value) (C : World → List α → Prop) (l : List α) (e : Ending) (w' : World) : Prop := e = .returned (val (l.getD 0 d)) ∧ ∃ l', C w' l' ∧ l.Perm (l.getD 0 d :: l') ∧ Heap lt d l'.length l'
set_option maxHeartbeats 4000000 in
theorem pop_any (I : HeapI t r lt d val C) (o : Ord lt) {l : List α} {w : World} {m : Nat} (h : C w l) (hH : Heap lt d l.length l) (hm : l.length = m + 1) (hn : l.length ≤ 1000000) :
    Calls Try.prog 26 #[.iface t r] w (PopP lt d val C l) := by
  have hH2 := Lib.hid hH
  obtain ⟨f, v, mL, eL, cL⟩ := I.len w l h
  clear h hH
  rw [hm] at cL
  have hmz : ((m + 1 : Nat) : Int) - 1 = (m : Int) := by omega
  have hmb : (m : Int) ≤ 1000000 := by omega
  unfold Enters at eL
  go_enter Try.func26, Try.ntmps26
  go_wp2_with fail
  refine cL.mono ?_
  rintro e w1 ⟨rfl, hC⟩
  have HC := Lib.hid hC
  clear hC mL eL cL
  obtain ⟨f, v, mS, eS, cS⟩ := I.swap w1 l 0 m HC.out (by omega) (by omega)
  unfold Enters at eS
  go_wp2_with fail
  refine cS.mono ?_
  rintro e w2 ⟨rfl, hC2⟩
  have HC2 := Lib.hid hC2
  clear hC2 mS eS cS HC
  go_wp2_with fail
  refine (down_any I o HC2.out (i := 0) (n := m) (down_pop (by rw [← hm]; exact hH2.out) hm) (by rw [sw_len]; omega) (by rw [sw_len]; omega) (by omega)).mono ?_
  rintro e w3 ⟨⟨b, rfl⟩, l2, hC3, hP, hU, hT⟩
  have hl2 : l2.length = m + 1 := by rw [hP.length_eq, sw_len]; exact hm
  obtain ⟨p1, p2⟩ := pop_perm hm hP (hT m (Nat.le_refl _))
  have el : l2 = l2.take m ++ [l2.getD m d] := by
    conv => lhs; rw [← List.take_append_drop m l2]
    congr 1
    rw [List.drop_eq_getElem_cons (by omega), List.drop_of_length_le (by omega), List.getD_eq_getElem?_getD, List.getElem?_eq_getElem (by omega)]
    rfl
  rw [el] at hC3
  obtain ⟨f, v, mP, eP, cP⟩ := I.pop w3 _ _ hC3
  have Hp1 := Lib.hid p1
  have Hp2 := Lib.hid p2
  have HU := Lib.hid hU
  have Hl2 := Lib.hid hl2
  clear hC3 hP hT el p1 p2 hU hl2
  unfold Enters at eP
  go_wp2_with fail
  refine cP.mono ?_
  rintro e w4 ⟨rfl, hC4⟩
  go_wp2
  go_ret
  refine ⟨congrArg (fun z => Ending.returned (val z)) (show l2[m]?.getD d = l.getD 0 d by rw [← List.getD_eq_getElem?_getD]; exact Hp1.out), _, hC4, Hp2.out, ?_⟩
  have hlt : (l2.take m).length = m := by rw [List.length_take, Hl2.out]; omega
  rw [hlt]
  exact heap_take HU.out
end
end Go.Proofs.Ytjndmehhdgiphaa
