/- slices.DeleteFunc at []int, on a row of the call's own. (From the template XDel.) -/
import Derived.Test.YtekjddcckkelnaaLib
import Derived.Lib.LazyBuf
import Derived.Lib.SliceRun
import Derived.WalkSpells
namespace Go.Proofs.Ytekjddcckkelnaa
open Go.RowKit

/-- only block B, and what is new, has turned -/
structure Only (w w' : World) (B : Nat) : Prop where
  os : w'.os = w.os
  tape : w'.tape = w.tape
  output : w'.output = w.output
  size : w.heap.size ≤ w'.heap.size
  block : ∀ k, k < w.heap.size → k ≠ B → w'.heap[k]? = w.heap[k]?
theorem Only.refl (w : World) (B : Nat) : Only w w B := ⟨rfl, rfl, rfl, Nat.le_refl _, fun _ _ _ => rfl⟩
theorem Only.setCell {w w' : World} {B : Nat} (h : Only w w' B) (i : Nat) (v : Value) : Only w (w'.setCell ⟨B, i, none⟩ v) B :=
  ⟨h.os, h.tape, h.output, by simpa [World.setCell] using h.size, fun k hk hne => (Below.heap_setCell w' ⟨B, i, none⟩ v k hne).trans (h.block k hk hne)⟩
theorem Only.since {a w w' : World} {B : Nat} (h : Only w w' B) (hs : a.Since a.heap.size w) (hB : a.heap.size ≤ B) : a.Since a.heap.size w' :=
  ⟨h.os.trans hs.os, h.tape.trans hs.tape, h.output.trans hs.output, Nat.le_trans hs.size h.size, fun k hk => (h.block k (Nat.lt_of_lt_of_le hk hs.size) (by omega)).trans (hs.block k hk)⟩
theorem Only.cell {w w' : World} {B : Nat} (h : Only w w' B) {a : Addr} (ha : a.block < w.heap.size) (hne : a.block ≠ B) : w'.cell? a = w.cell? a := World.cell?_of_block (h.block _ ha hne)
theorem Only.setCells {w : World} {B : Nat} : ∀ (vs : List Value) (o : Nat) (w' : World), Only w w' B → Only w (w'.setCells B o vs) B
  | [], _, _, h => h
  | v :: vs, o, w', h => Only.setCells vs (o + 1) (w'.setCell ⟨B, o, none⟩ v) (h.setCell o v)
theorem take_snocI {xs : List Int} {k : Nat} {x : Int} (h : xs[k]? = some x) : xs.take (k + 1) = xs.take k ++ [x] := by
  obtain ⟨hk, he⟩ := List.getElem?_eq_some_iff.1 h
  rw [List.take_succ_eq_append_getElem hk, he]
/-- a row whose first cells are a list -/
def HoldsI (f : Nat → Value) (xs : List Int) : Prop := ∀ (i : Nat) (x : Int), xs[i]? = some x → f i = .int .i64 x
def DelPost (B N : Nat) (cap : Nat) (ys : List Int) (w : World) (e : Ending) (w' : World) : Prop :=
  Only w w' B ∧ e = .returned (.slice (some ⟨B, 0, none⟩) ys.length cap) ∧ ∃ f, w'.rowIs B 3 N f ∧ HoldsI f ys
theorem filter_none {p : Int → Bool} {xs : List Int} (h : ∀ x ∈ xs, p x = false) : xs.filter (fun x => !p x) = xs := List.filter_eq_self.2 (fun x hx => by rw [h x hx]; rfl)
/-- the first whom p strikes -/
theorem idxP_cases (p : Int → Bool) (xs : List Int) : (idxP p xs = -1 ∧ ∀ x ∈ xs, p x = false) ∨ ∃ k x, k < xs.length ∧ idxP p xs = (k : Nat) ∧ xs[k]? = some x ∧ p x = true ∧ ∀ y ∈ xs.take k, p y = false := by
  induction xs with
  | nil => left; exact ⟨rfl, by simp⟩
  | cons a xs ih =>
    by_cases h : p a = true
    · right; exact ⟨0, a, by simp, by simp [idxP, h], rfl, h, by simp⟩
    · have ha : p a = false := by simpa using h
      rcases ih with ⟨h1, h2⟩ | ⟨k, x, h1, h2, h3, h4, h5⟩
      · left
        refine ⟨by rw [idxP, if_neg h, if_pos (by omega)], fun x hx => ?_⟩
        rcases List.mem_cons.1 hx with rfl | hx
        · exact ha
        · exact h2 x hx
      · right
        refine ⟨k + 1, x, by simpa using h1, by rw [idxP, if_neg h, if_neg (by omega), h2]; omega, by simpa using h3, h4, fun y hy => ?_⟩
        rw [List.take_succ_cons] at hy
        rcases List.mem_cons.1 hy with rfl | hy
        · exact ha
        · exact h5 y hy
theorem underlyingI : Try.prog.underlying 30 = some (.slice 3) := by kernel_rfl
theorem zeroI (w : World) : (zeroValue 3).run Try.prog w = .ok (.int .i64 0) w := by kernel_rfl
set_option maxHeartbeats 4000000 in
theorem DeleteFunc_any (B N cap : Nat) (f : Nat → Value) (xs : List Int) (g : FuncId) (lb : Array Value) (p : Int → Bool) (w : World) (eg : ∀ args w, (callFunc g args).run Try.prog w = .ok (.enter g args) w)
    (hp : ∀ W, Only w W B → Asks g lb p W) (hr : w.rowIs B 3 N f) (hf : HoldsI f xs) (hN : xs.length ≤ N) (hNc : N = cap) (hlen : xs.length ≤ 1000000000) :
    Calls Try.prog 20 #[.slice (some ⟨B, 0, none⟩) xs.length cap, .func (.func g) #[] lb] w (DelPost B N cap (xs.filter fun x => !p x) w) := by
  have hB := hr.lt
  have hI : IntsAt w (some ⟨B, 0, none⟩) xs := fun _ _ => ⟨B, 0, rfl, hB, fun k x hx => by
    have hk := (List.getElem?_eq_some_iff.1 hx).1
    rw [Nat.zero_add, hr.cell (by omega), hf k x hx]⟩
  have C1 := Lib.hid (IndexFunc_any (some ⟨B, 0, none⟩) cap xs g lb p w eg (hp w (Only.refl _ _)) hI hlen)
  rcases idxP_cases p xs with ⟨e1, h2⟩ | ⟨k0, x0, hk0, e1, hx0, hpx, h2⟩
  · rw [e1] at C1
    have he := filter_none h2
    rw [he]
    have Hr := Lib.hid hr
    clear e1 h2 he hp hI hr
    go_enter Try.func20, Try.ntmps20
    go_wp2_with fail
    refine C1.out.mono ?_
    rintro e w' ⟨rfl, rfl⟩
    go_wp2
    go_ret
    exact ⟨Only.refl _ _, rfl, f, Hr.out, hf⟩
  · rw [e1] at C1
    have hne : ((k0 : Int) == -1) = false := beq_eq_false_iff_ne.2 (by omega)
    have Hr := Lib.hid hr
    have HP := Lib.hid hp
    have Hx0 := Lib.hid hx0
    have H2 := Lib.hid h2
    have HpX := Lib.hid hpx
    have HF := Lib.hid hf
    clear e1 h2 hp hI hr hx0 hpx hf
    go_enter Try.func20, Try.ntmps20
    go_wp2_with fail
    refine C1.out.mono ?_
    rintro e w' ⟨rfl, rfl⟩
    go_wp2
    go_loopg [5, 6, 7] xs.length (fun g iv jv _ wr => ∃ (i j : Nat) (h : Nat → Value), i < j ∧ j ≤ xs.length ∧ xs.length - j ≤ g ∧ iv = .int .i64 i ∧ jv = .int .i64 j ∧ Only w wr B ∧ wr.rowIs B 3 N h ∧ Hid (i = ((xs.take j).filter fun x => !p x).length ∧ HoldsI h ((xs.take j).filter fun x => !p x) ∧ ∀ t, j ≤ t → t < N → h t = f t))
    case atStart =>
      have ht : (xs.take (k0 + 1)).filter (fun x => !p x) = xs.take k0 := by
        rw [take_snocI Hx0.out, List.filter_append, filter_none H2.out]; simp [HpX.out]
      refine ⟨k0, k0 + 1, f, by omega, by omega, by omega, rfl, by go_num, Only.refl _ _, Hr.out, Lib.hid ⟨?_, ?_, fun _ _ _ => rfl⟩⟩
      · rw [ht, List.length_take]; omega
      · rw [ht]
        intro i x hx
        rw [List.getElem?_take] at hx
        split at hx
        · exact HF.out i x hx
        · cases hx
    case round =>
      obtain ⟨i, j, h, hij, hjl, hg, rfl, rfl, ho, hrow, hH⟩ := hrel
      have fz := hrow.frozen i
      by_cases hlt : j < xs.length
      · have hltz : (j : Int) < (xs.length : Int) := by omega
        have hiz : (i : Int) < (xs.length : Int) := by omega
        obtain ⟨x, hx⟩ : ∃ x, xs[j]? = some x := ⟨xs[j], List.getElem?_eq_getElem hlt⟩
        have cj := hrow.cell (i := j) (by omega)
        rw [hH.out.2.2 j (Nat.le_refl _) (by omega), HF.out j x hx] at cj
        have ci : (wr.cell? ⟨B, i, none⟩) = some (h i) := hrow.cell (by omega)
        have ht := take_snocI hx
        have Ht := Lib.hid ht
        have Hrow := Lib.hid hrow
        clear hx ht hrow
        obtain ⟨t, htp⟩ : ∃ t, p x = t := ⟨_, rfl⟩
        have C2 := Lib.hid ((HP.out wr ho).call x htp)
        have Hp := Lib.hid htp
        generalize h i = old at ci
        clear htp
        cases t
        · go_wp2_with fail
          refine C2.out.mono ?_
          rintro e w' ⟨rfl, rfl⟩
          go_wp2
          go_roundg (xs.length - (j + 1))
          case measure => go_light; omega
          case rel =>
            go_light
            have hH' := hH.out
            refine ⟨i + 1, j + 1, fun t => if t = i then .int .i64 x else h t, by omega, by omega, by omega, by go_num, by go_num, ho.setCell _ _, Hrow.out.set _ _, Lib.hid ?_⟩
            rw [Ht.out, List.filter_append]
            simp only [List.filter_cons, Hp.out, Bool.not_false, if_true, List.filter_nil]
            refine ⟨by rw [List.length_append, ← hH'.1]; rfl, fun t y hy => ?_, fun t h1 h2 => ?_⟩
            · by_cases e : t = i
              · subst e
                rw [List.getElem?_append_right (by omega), ← hH'.1, Nat.sub_self] at hy
                simp at hy; subst hy; simp
              · have hti : t < i := by
                  have := (List.getElem?_eq_some_iff.1 hy).1
                  rw [List.length_append, ← hH'.1] at this
                  simp at this; omega
                rw [List.getElem?_append_left (by omega)] at hy
                simp only [if_neg e]
                exact hH'.2.1 t y hy
            · rw [if_neg (by omega)]; exact hH'.2.2 t (by omega) h2
        · go_wp2_with fail
          refine C2.out.mono ?_
          rintro e w' ⟨rfl, rfl⟩
          go_wp2
          go_roundg (xs.length - (j + 1))
          case measure => go_light; omega
          case rel =>
            go_light
            have hH' := hH.out
            refine ⟨i, j + 1, h, by omega, by omega, by omega, rfl, by go_num, ho, Hrow.out, Lib.hid ?_⟩
            rw [Ht.out, List.filter_append]
            simp only [List.filter_cons, Hp.out, Bool.not_true, Bool.false_eq_true, if_false, List.filter_nil, List.append_nil]
            exact ⟨hH'.1, hH'.2.1, fun t h1 h2 => hH'.2.2 t (by omega) h2⟩
      · obtain rfl : xs.length = j := by omega
        have hicap : ¬ i = cap := by omega
        have hiz : (i : Int) ≤ (xs.length : Int) := by omega
        have hiz2 : (i : Int) ≤ (cap : Int) := by omega
        have hnc : (xs.length : Int) ≤ (cap : Int) := by omega
        have hcl : ∀ ty c, (Builtin.clear_ #[30] ty #[.slice (some ⟨B, i, none⟩) (xs.length - i) c]).run Try.prog wr = .ok (.tuple #[]) (wr.setCells B i (List.replicate (xs.length - i) (.int .i64 0))) :=
          fun ty c => Lib.run_clear_slice wr 30 3 ty (.int .i64 0) underlyingI zeroI rfl rfl B i (xs.length - i) c (by omega) (fun t ht => by rw [hrow.cell (by omega)]; rfl) (fun t _ => hrow.frozen _)
        have Hrow := Lib.hid hrow
        clear hrow fz
        go_wp2_with (simp only [hcl])
        go_ret
        have hH' := hH.out
        rw [List.take_of_length_le (Nat.le_refl _)] at hH'
        refine ⟨ho.setCells _ _ _, ?_, _, rowIs_setCells _ _ _ _ Hrow.out, fun t y hy => ?_⟩
        · rw [← hH'.1]; rfl
        · have := (List.getElem?_eq_some_iff.1 hy).1
          rw [if_neg (by omega)]
          exact hH'.2.1 t y hy
end Go.Proofs.Ytekjddcckkelnaa
