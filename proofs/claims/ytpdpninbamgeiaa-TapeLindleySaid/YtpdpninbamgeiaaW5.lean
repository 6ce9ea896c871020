/- tape: slices.DeleteFunc with a predicate that writes. -/
import Derived.Test.YtpdpninbamgeiaaW4
import Derived.Lib.LazyBuf
import Derived.Lib.SliceRun
import Derived.WalkSpells
namespace Go.Proofs.Ytpdpninbamgeiaa
open Go.RowKit

/-- a predicate that writes elsewhere: `Q k` when k have been asked -/
structure AskW (g : FuncId) (lb : Array Value) (p : Int → Bool) (B : Nat) (xs : List Int) (Q : Nat → World → Prop) : Prop where
  ask : ∀ k x W, xs[k]? = some x → Q k W → B < W.heap.size → Calls Try.prog g (#[.int .i64 x] ++ lb) W fun e w' => e = .returned (.bool (p x)) ∧ Q (k + 1) w' ∧ w'.heap[B]? = W.heap[B]?
  store : ∀ k W i v, Q k W → Q k (W.setCell ⟨B, i, none⟩ v)
theorem AskW.call {g : FuncId} {lb : Array Value} {p : Int → Bool} {B : Nat} {xs : List Int} {Q : Nat → World → Prop} (h : AskW g lb p B xs Q) {k : Nat} {x : Int} {W : World} {t : Bool} (ht : p x = t) (hx : xs[k]? = some x) (hQ : Q k W) (hB : B < W.heap.size) :
    Calls Try.prog g (#[.int .i64 x] ++ lb) W fun e w' => e = .returned (.bool t) ∧ Q (k + 1) w' ∧ w'.heap[B]? = W.heap[B]? := by
  rw [← ht]; exact h.ask k x W hx hQ hB
theorem AskW.stores {g : FuncId} {lb : Array Value} {p : Int → Bool} {B : Nat} {xs : List Int} {Q : Nat → World → Prop} (h : AskW g lb p B xs Q) {k : Nat} : ∀ (vs : List Value) (o : Nat) (W : World), Q k W → Q k (W.setCells B o vs)
  | [], _, _, hQ => hQ
  | v :: vs, o, W, hQ => h.stores vs (o + 1) (W.setCell ⟨B, o, none⟩ v) (h.store k W o v hQ)
def HoldsO (f : Nat → Value) (o : Nat) (xs : List Int) : Prop := ∀ (i : Nat) (x : Int), xs[i]? = some x → f (o + i) = .int .i64 x
def IndexPost (p : Int → Bool) (B N : Nat) (xs : List Int) (f : Nat → Value) (Q : Nat → World → Prop) (e : Ending) (w' : World) : Prop :=
  w'.rowIs B 3 N f ∧ ((e = .returned (.int .i64 (-1)) ∧ (∀ x ∈ xs, p x = false) ∧ Q xs.length w') ∨ ∃ k x, e = .returned (.int .i64 ((k : Nat) : Int)) ∧ k < xs.length ∧ xs[k]? = some x ∧ p x = true ∧ (∀ y ∈ xs.take k, p y = false) ∧ Q (k + 1) w')
set_option maxHeartbeats 1000000 in
theorem IndexW {B N o cap : Nat} {f : Nat → Value} {xs : List Int} {g : FuncId} {lb : Array Value} {p : Int → Bool} {Q : Nat → World → Prop} {w : World} (eg : ∀ args w, (callFunc g args).run Try.prog w = .ok (.enter g args) w)
    (hp : AskW g lb p B xs Q) (hQ : Q 0 w) (hr : w.rowIs B 3 N f) (hf : HoldsO f o xs) (hN : o + xs.length ≤ N) (hlen : xs.length ≤ 1000000000) :
    Calls Try.prog 12 #[.slice (some ⟨B, o, none⟩) xs.length cap, .func (.func g) #[] lb] w (IndexPost p B N xs f Q) := by
  have HQ := Lib.hid hQ
  have HP := Lib.hid hp
  have HF := Lib.hid hf
  have HR := Lib.hid hr
  clear hQ hp hf hr
  go_enter Try.func12, Try.ntmps12
  go_wp2
  go_loopg [8] xs.length (fun g i wr => ∃ k : Nat, k ≤ xs.length ∧ g = xs.length - k ∧ i = .int .i64 k ∧ Hid (Q k wr) ∧ Hid (wr.rowIs B 3 N f) ∧ Hid (∀ y ∈ xs.take k, p y = false))
  case atStart => exact ⟨0, Nat.zero_le _, rfl, rfl, HQ, HR, Lib.hid (fun y hy => by simp at hy)⟩
  case round =>
    clear HQ HR
    obtain ⟨k, hk, rfl, rfl, hQ, hR, hno⟩ := hrel
    by_cases hkl : k < xs.length
    · have hkz : (k : Int) < (xs.length : Int) := by omega
      obtain ⟨x, hx⟩ : ∃ x, xs[k]? = some x := ⟨xs[k], List.getElem?_eq_getElem hkl⟩
      have c0 := hR.out.cell (i := o + k) (by omega)
      rw [HF.out k x hx] at c0
      have Hx := Lib.hid hx
      clear hx
      obtain ⟨t, ht⟩ : ∃ t, p x = t := ⟨_, rfl⟩
      have c1 := Lib.hid (HP.out.call ht Hx.out hQ.out hR.out.lt)
      have Ht := Lib.hid ht
      clear ht
      cases t
      · go_wp2_with fail
        refine c1.out.mono ?_
        rintro e w' ⟨rfl, hQ2, hB2⟩
        have HQ2 := Lib.hid hQ2
        have HB2 := Lib.hid hB2
        clear hQ2 hB2
        go_wp2
        go_roundg (xs.length - (k + 1))
        case measure => go_light; omega
        case rel =>
          go_light
          refine ⟨k + 1, by omega, rfl, by go_num, HQ2, Lib.hid (hR.out.of_block HB2.out), Lib.hid (fun y hy => ?_)⟩
          rw [take_snocI Hx.out] at hy
          rcases List.mem_append.1 hy with hy | hy
          · exact hno.out y hy
          · simp at hy; subst hy; exact Ht.out
      · go_wp2_with fail
        refine c1.out.mono ?_
        rintro e w' ⟨rfl, hQ2, hB2⟩
        have HQ2 := Lib.hid hQ2
        have HB2 := Lib.hid hB2
        clear hQ2 hB2
        go_wp2
        go_ret
        exact ⟨hR.out.of_block HB2.out, .inr ⟨k, x, rfl, hkl, Hx.out, Ht.out, hno.out, HQ2.out⟩⟩
    · obtain rfl : xs.length = k := by omega
      go_wp2
      go_ret
      refine ⟨hR.out, .inl ⟨rfl, fun x hx => hno.out x (by rw [List.take_length]; exact hx), hQ.out⟩⟩

theorem underlyingI : Try.prog.underlying 35 = some (.slice 3) := by kernel_rfl
theorem zeroI (w : World) : (zeroValue 3).run Try.prog w = .ok (.int .i64 0) w := by kernel_rfl
theorem filter_none {p : Int → Bool} {xs : List Int} (h : ∀ x ∈ xs, p x = false) : xs.filter (fun x => !p x) = xs := List.filter_eq_self.2 (fun x hx => by rw [h x hx]; rfl)
def DelWPost (p : Int → Bool) (B N o cap : Nat) (xs : List Int) (Q : Nat → World → Prop) (e : Ending) (w' : World) : Prop :=
  e = .returned (.slice (some ⟨B, o, none⟩) (xs.filter fun x => !p x).length cap) ∧ Q xs.length w' ∧ ∃ f, w'.rowIs B 3 N f ∧ HoldsO f o (xs.filter fun x => !p x)
set_option maxHeartbeats 4000000 in
theorem DeleteW {B N o cap : Nat} {f : Nat → Value} {xs : List Int} {g : FuncId} {lb : Array Value} {p : Int → Bool} {Q : Nat → World → Prop} {w : World} (eg : ∀ args w, (callFunc g args).run Try.prog w = .ok (.enter g args) w)
    (hp : AskW g lb p B xs Q) (hQ : Q 0 w) (hr : w.rowIs B 3 N f) (hf : HoldsO f o xs) (hnc : xs.length ≤ cap) (hN : o + cap ≤ N) (hlen : xs.length ≤ 1000000000) :
    Calls Try.prog 14 #[.slice (some ⟨B, o, none⟩) xs.length cap, .func (.func g) #[] lb] w (DelWPost p B N o cap xs Q) := by
  have C1 := Lib.hid (IndexW (cap := cap) eg hp hQ hr hf (by omega) hlen)
  have HP := Lib.hid hp
  have HF := Lib.hid hf
  clear hQ hp hf hr
  go_enter Try.func14, Try.ntmps14
  go_wp2_with fail
  refine C1.out.mono ?_
  rintro e w1 ⟨hr1, ⟨rfl, h2, hQ⟩ | ⟨k0, x0, rfl, hk0, hx0, hpx, h2, hQ⟩⟩
  · have he := filter_none h2
    have He := Lib.hid he
    have Hr := Lib.hid hr1
    have HQ := Lib.hid hQ
    clear he hr1 hQ h2
    go_wp2
    go_ret
    exact ⟨by rw [He.out]; rfl, HQ.out, f, Hr.out, by rw [He.out]; exact HF.out⟩
  · have hne : ((k0 : Int) == -1) = false := beq_eq_false_iff_ne.2 (by omega)
    have Hr := Lib.hid hr1
    have Hx0 := Lib.hid hx0
    have H2 := Lib.hid h2
    have HpX := Lib.hid hpx
    have HQ := Lib.hid hQ
    clear hr1 hx0 h2 hpx hQ C1
    go_wp2
    go_loopg [5, 6, 7] xs.length (fun g iv jv _ wr => ∃ (i j : Nat) (h : Nat → Value), i < j ∧ j ≤ xs.length ∧ xs.length - j ≤ g ∧ iv = .int .i64 i ∧ jv = .int .i64 j ∧ Hid (Q j wr) ∧ Hid (wr.rowIs B 3 N h) ∧ Hid (i = ((xs.take j).filter fun x => !p x).length ∧ HoldsO h o ((xs.take j).filter fun x => !p x) ∧ ∀ t, j ≤ t → t < xs.length → h (o + t) = f (o + t)))
    case atStart =>
      have ht : (xs.take (k0 + 1)).filter (fun x => !p x) = xs.take k0 := by
        rw [take_snocI Hx0.out, List.filter_append, filter_none H2.out]; simp [HpX.out]
      refine ⟨k0, k0 + 1, f, by omega, by omega, by omega, rfl, by go_num, HQ, Hr, Lib.hid ⟨?_, ?_, fun _ _ _ => rfl⟩⟩
      · rw [ht, List.length_take]; omega
      · rw [ht]
        intro i x hx
        rw [List.getElem?_take] at hx
        split at hx
        · exact HF.out i x hx
        · cases hx
    case round =>
      clear HQ Hr
      obtain ⟨i, j, h, hij, hjl, hg, rfl, rfl, hQ, hR, hH⟩ := hrel
      have fz := hR.out.frozen (o + i)
      by_cases hlt : j < xs.length
      · have hltz : (j : Int) < (xs.length : Int) := by omega
        have hiz : (i : Int) < (xs.length : Int) := by omega
        obtain ⟨x, hx⟩ : ∃ x, xs[j]? = some x := ⟨xs[j], List.getElem?_eq_getElem hlt⟩
        have cj := hR.out.cell (i := o + j) (by omega)
        rw [hH.out.2.2 j (Nat.le_refl _) hlt, HF.out j x hx] at cj
        have ht := take_snocI hx
        have Ht := Lib.hid ht
        have Hx := Lib.hid hx
        clear hx ht fz
        obtain ⟨t, htp⟩ : ∃ t, p x = t := ⟨_, rfl⟩
        have C2 := Lib.hid (HP.out.call htp Hx.out hQ.out hR.out.lt)
        have Hp := Lib.hid htp
        clear htp
        cases t
        · go_wp2_with fail
          refine C2.out.mono ?_
          rintro e w' ⟨rfl, hQ2, hB2⟩
          have HR2 := Lib.hid (hR.out.of_block hB2)
          have HQ2 := Lib.hid hQ2
          clear hQ2 hB2 C2 hQ hR
          have ci : (w'.cell? ⟨B, o + i, none⟩) = some (h (o + i)) := HR2.out.cell (by omega)
          have fz := HR2.out.frozen (o + i)
          generalize h (o + i) = old at ci
          go_wp2
          go_roundg (xs.length - (j + 1))
          case measure => go_light; omega
          case rel =>
            go_light
            have hH' := hH.out
            refine ⟨i + 1, j + 1, fun t => if t = o + i then .int .i64 x else h t, by omega, by omega, by omega, by go_num, by go_num, Lib.hid (HP.out.store _ _ _ _ HQ2.out), Lib.hid (HR2.out.set _ _), Lib.hid ?_⟩
            rw [Ht.out, List.filter_append]
            simp only [List.filter_cons, Hp.out, Bool.not_false, if_true, List.filter_nil]
            refine ⟨by rw [List.length_append, ← hH'.1]; rfl, fun t y hy => ?_, fun t h1 h2 => ?_⟩
            · by_cases e : t = i
              · subst e
                rw [List.getElem?_append_right (by omega), ← hH'.1, Nat.sub_self] at hy
                simp at hy; subst hy; simp
              · have hti : t < i := by
                  have := (List.getElem?_eq_some_iff.1 hy).1
                  rw [List.length_append, ← hH'.1] at this
                  simp at this; omega
                rw [List.getElem?_append_left (by omega)] at hy
                simp only [show ¬ (o + t = o + i) by omega, if_false]
                exact hH'.2.1 t y hy
            · rw [if_neg (by omega)]; exact hH'.2.2 t (by omega) h2
        · go_wp2_with fail
          refine C2.out.mono ?_
          rintro e w' ⟨rfl, hQ2, hB2⟩
          have HR2 := Lib.hid (hR.out.of_block hB2)
          have HQ2 := Lib.hid hQ2
          clear hQ2 hB2 C2 hQ hR
          go_wp2
          go_roundg (xs.length - (j + 1))
          case measure => go_light; omega
          case rel =>
            go_light
            have hH' := hH.out
            refine ⟨i, j + 1, h, by omega, by omega, by omega, rfl, by go_num, HQ2, HR2, Lib.hid ?_⟩
            rw [Ht.out, List.filter_append]
            simp only [List.filter_cons, Hp.out, Bool.not_true, Bool.false_eq_true, if_false, List.filter_nil, List.append_nil]
            exact ⟨hH'.1, hH'.2.1, fun t h1 h2 => hH'.2.2 t (by omega) h2⟩
      · obtain rfl : xs.length = j := by omega
        have hicap : ¬ i = cap := by omega
        have hiz : (i : Int) ≤ (xs.length : Int) := by omega
        have hiz2 : (i : Int) ≤ (cap : Int) := by omega
        have hncz : (xs.length : Int) ≤ (cap : Int) := by omega
        have hcl : ∀ ty c, (Builtin.clear_ #[35] ty #[.slice (some ⟨B, o + i, none⟩) (xs.length - i) c]).run Try.prog wr = .ok (.tuple #[]) (wr.setCells B (o + i) (List.replicate (xs.length - i) (.int .i64 0))) :=
          fun ty c => Lib.run_clear_slice wr 35 3 ty (.int .i64 0) underlyingI zeroI rfl rfl B (o + i) (xs.length - i) c (by omega) (fun t ht => by rw [hR.out.cell (by omega)]; rfl) (fun t _ => hR.out.frozen _)
        clear fz
        go_wp2_with (simp only [hcl])
        go_ret
        have hH' := hH.out
        rw [List.take_of_length_le (Nat.le_refl _)] at hH'
        refine ⟨by rw [← hH'.1]; rfl, HP.out.stores _ _ _ hQ.out, _, rowIs_setCells _ _ _ _ hR.out, fun t y hy => ?_⟩
        have := (List.getElem?_eq_some_iff.1 hy).1
        rw [if_neg (by omega)]
        exact hH'.2.1 t y hy
theorem Index_nil {g : FuncId} {lb : Array Value} {w : World} : Calls Try.prog 12 #[.slice none 0 0, .func (.func g) #[] lb] w fun e w' => e = .returned (.int .i64 (-1)) ∧ w = w' := by
  go_enter Try.func12, Try.ntmps12
  go_wp2
  go_loopg [8] 0 (fun g i wr => g = 0 ∧ i = .int .i64 0 ∧ w = wr)
  case atStart => exact ⟨rfl, rfl, rfl⟩
  case round =>
    obtain ⟨rfl, rfl, rfl⟩ := hrel
    go_wp2
    go_ret
    exact ⟨rfl, rfl⟩
theorem Delete_nil {g : FuncId} {lb : Array Value} {w : World} : Calls Try.prog 14 #[.slice none 0 0, .func (.func g) #[] lb] w fun e w' => e = .returned (.slice none 0 0) ∧ w = w' := by
  go_enter Try.func14, Try.ntmps14
  go_wp2_with fail
  refine Index_nil.mono ?_
  rintro e w' ⟨rfl, rfl⟩
  go_wp2
  go_ret
  exact ⟨rfl, rfl⟩
theorem Delete_irow {base : Nat} {v : Value} {xs : List Int} {g : FuncId} {lb : Array Value} {p : Int → Bool} {Q : Nat → World → Prop} {w : World} (eg : ∀ args w, (callFunc g args).run Try.prog w = .ok (.enter g args) w)
    (hp : ∀ B, v.ownBlock = some B → AskW g lb p B xs Q) (hQ : Q 0 w) (hr : IRow w base false v xs) (hlen : xs.length ≤ 1000000000) :
    Calls Try.prog 14 #[v, .func (.func g) #[] lb] w fun e w' => ∃ v', e = .returned v' ∧ Q xs.length w' ∧ IRow w' base false v' (xs.filter fun x => !p x) ∧ v'.ownBlock = v.ownBlock := by
  rcases hr with ⟨rfl, rfl⟩ | ⟨B, o, c, N, f, rfl, h1, h2, h3, h4, h5, h6, _⟩
  · refine Delete_nil.mono ?_
    rintro e w' ⟨rfl, rfl⟩
    exact ⟨_, rfl, hQ, irow_nil _ _ _, rfl⟩
  · refine (DeleteW eg (hp B rfl) hQ h5 h6 h2 h3 hlen).mono ?_
    rintro e w' ⟨rfl, hQ2, f', hr', hf'⟩
    exact ⟨_, rfl, hQ2, .inr ⟨B, o, c, N, f', rfl, h1, Nat.le_trans (List.length_filter_le _ _) h2, h3, h4, hr', hf', fun h => by cases h⟩, rfl⟩
end Go.Proofs.Ytpdpninbamgeiaa
