/- path: Run's own comparison. -/
import Derived.Test.YtekjddcckkelnaaW3
import Derived.StillTailTactics
import Derived.Outline
namespace Go.Proofs.Ytekjddcckkelnaa
open Go.RowKit PathM

/-- what Run compares by -/
def cf (rule : Int) (js : List Job) (left : Nat → Int) (a b : Nat) : Int := orV (cmp (rk rule js left a) (rk rule js left b)) ((a : Int) - b)
/-- Run's variables, as its comparison reads them -/
structure Vars (w : World) (pr pl pf : Nat) (rule : Int) (A : Option Addr) (cap : Nat) (js : List Job) (bl : Nat) (left : Nat → Int) : Prop where
  r : w.cell? ⟨pr, 0, none⟩ = some (.int .i64 rule)
  l : w.cell? ⟨pl, 0, none⟩ = some (.slice A js.length cap)
  f : w.cell? ⟨pf, 0, none⟩ = some (.slice (some ⟨bl, 0, none⟩) js.length js.length)
  jobs : JobsAt w A js
  row : w.rowIs bl 3 js.length (fun j => .int .i64 (left j))
def CmpPost (v : Int) (w : World) (e : Ending) (w' : World) : Prop := e = .returned (.int .i64 v) ∧ w.Since w.heap.size w'
theorem stillc {P : Program} {f : FuncId} {args : Array Value} {w : World} {v : Value} (h : Calls P f args w fun e w' => e = .returned v ∧ w = w') : Calls P f args w fun e w' => e = .returned v ∧ w' = w :=
  h.mono fun _ _ ⟨h1, h2⟩ => ⟨h1, h2.symm⟩
set_option maxHeartbeats 4000000 in
theorem cf_any {w : World} {pr pl pf : Nat} {rule : Int} {A : Option Addr} {cap : Nat} {js : List Job} {bl : Nat} {left : Nat → Int} (V : Vars w pr pl pf rule A cap js bl left) (hlen : js.length ≤ 60) (h1 : 1 ≤ rule) (h6 : rule ≤ 6) {a b : Nat} (ha : a < js.length) (hb : b < js.length) :
    Calls Try.prog 16 #[.int .i64 a, .int .i64 b, .pointer (some ⟨pr, 0, none⟩), .pointer (some ⟨pl, 0, none⟩), .pointer (some ⟨pf, 0, none⟩)] w (CmpPost (cf rule js left a b) w) := by
  have cr := V.r
  have cl := V.l
  have cg := V.f
  have R1 := stillc (rank_any rule A cap js bl js.length left a { w with drawn := w.drawn + 1 } V.jobs V.row ha ha h1 h6 hlen)
  have R2 := stillc (rank_any rule A cap js bl js.length left b { w with drawn := w.drawn + 1 } V.jobs V.row hb hb h1 h6 hlen)
  obtain ⟨r1, hr1⟩ : ∃ r, r = rk rule js left a := ⟨_, rfl⟩
  obtain ⟨r2, hr2⟩ : ∃ r, r = rk rule js left b := ⟨_, rfl⟩
  have Hv : Hid (cf rule js left a b = orV (cmp r1 r2) ((a : Int) - b)) := Lib.hid (by rw [hr1, hr2]; rfl)
  rw [← hr1] at R1
  rw [← hr2] at R2
  have H1 := Lib.hid R1
  have H2 := Lib.hid R2
  clear R1 R2 hr1 hr2 V
  go_enter Try.func16, Try.ntmps16
  go_wp2
  refine wp_region_still_tail 14 (by kernel_rfl) (by kernel_rfl) ?_
  simp only [List.take_succ_cons, List.take_zero, List.drop_succ_cons, List.drop_zero]
  repeat still_step
  still_call H1.out
  repeat still_step
  still_call H2.out
  repeat still_step
  still_call (stillc (Compare_any r1 r2 _))
  repeat still_step
  refine wpStill_nil ?_
  change wpList _ _ _ _ _ w.drew
  generalize cmp r1 r2 = c at *
  have hrow : ((w.alloc (Obj.cells #[Value.int IntKind.i64 c, Value.int IntKind.i64 ((a : Int) - b)] 3)).drew).rowIs w.heap.size 3 2 (fun i => if i = 0 then .int .i64 c else .int .i64 ((a : Int) - b)) :=
    World.rowIs_alloc w #[Value.int IntKind.i64 c, Value.int IntKind.i64 ((a : Int) - b)] 3 _ (fun i hi => by
      have hi' : i < 2 := hi
      match i, hi' with
      | 0, _ => rfl
      | 1, _ => rfl)
  have C := Lib.hid (Or_any w.heap.size c ((a : Int) - b) _ _ hrow (by simp) (by simp))
  clear hrow
  go_wp2_with fail
  refine C.out.mono ?_
  rintro e w' ⟨rfl, rfl⟩
  go_wp2
  go_ret
  refine ⟨by rw [Hv.out]; rfl, ((World.Since.refl _ _).alloc (Nat.le_refl _) _).drew⟩
/-- one goes ahead of another one -/
theorem cf_neg {rule : Int} {js : List Job} {left : Nat → Int} {a b : Nat} : cf rule js left a b < 0 ↔ rk rule js left a < rk rule js left b ∨ (rk rule js left a = rk rule js left b ∧ a < b) := by
  unfold cf orV cmp
  generalize rk rule js left a = x
  generalize rk rule js left b = y
  by_cases h1 : x < y
  · simp [h1]
  · by_cases h2 : y < x
    · simp [h1, h2]; omega
    · obtain rfl : x = y := by omega
      simp; omega
/-- some one of them whom nobody goes ahead of -/
structure BestOf (rule : Int) (js : List Job) (left : Nat → Int) (l : List Nat) (m : Nat) : Prop where
  mem : m ∈ l
  least : ∀ j ∈ l, rk rule js left m < rk rule js left j ∨ (rk rule js left m = rk rule js left j ∧ m ≤ j)
def MinPost (rule : Int) (js : List Job) (left : Nat → Int) (l : List Nat) (w : World) (e : Ending) (w' : World) : Prop :=
  w.Since w.heap.size w' ∧ ∃ m, BestOf rule js left l m ∧ e = .returned (.int .i64 (m : Nat))
theorem Vars.since {w wr : World} {pr pl pf : Nat} {rule : Int} {A : Option Addr} {cap : Nat} {js : List Job} {bl : Nat} {left : Nat → Int} (V : Vars w pr pl pf rule A cap js bl left) (hs : w.Since w.heap.size wr) : Vars wr pr pl pf rule A cap js bl left := by
  have h1 := World.block_lt_of_cell? _ _ V.r
  have h2 := World.block_lt_of_cell? _ _ V.l
  have h3 := World.block_lt_of_cell? _ _ V.f
  exact ⟨by rw [hs.cell h1]; exact V.r, by rw [hs.cell h2]; exact V.l, by rw [hs.cell h3]; exact V.f, V.jobs.since (Nat.le_refl _) hs, V.row.of_block (hs.block _ V.row.lt)⟩
def natsL (l : List Nat) : List Int := l.map fun (i : Nat) => (i : Int)
set_option maxHeartbeats 4000000 in
theorem MinFunc_any {w : World} {pr pl pf : Nat} {rule : Int} {A : Option Addr} {cap : Nat} {js : List Job} {bl : Nat} {left : Nat → Int} (V : Vars w pr pl pf rule A cap js bl left) (hlen : js.length ≤ 60) (h1 : 1 ≤ rule) (h6 : rule ≤ 6)
    (A2 : Option Addr) (cap2 : Nat) (l : List Nat) (hl : ∀ i ∈ l, i < js.length) (hne : 0 < l.length) (hll : l.length ≤ 1000) (hI : IntsAt w A2 (natsL l)) :
    Calls Try.prog 15 #[.slice A2 l.length cap2, .func (.func 16) #[] #[.pointer (some ⟨pr, 0, none⟩), .pointer (some ⟨pl, 0, none⟩), .pointer (some ⟨pf, 0, none⟩)]] w (MinPost rule js left l w) := by
  have eg : ∀ args w, (callFunc 16 args).run Try.prog w = .ok (.enter 16 args) w := fun _ _ => by kernel_rfl
  have hnz : (1 : Int) ≤ (l.length : Int) := by omega
  have hlenN : (natsL l).length = l.length := by unfold natsL; simp
  have hgN : ∀ (k i : Nat), l[k]? = some i → (natsL l)[k]? = some (i : Int) := fun k i h => by unfold natsL; rw [List.getElem?_map, h]; rfl
  obtain ⟨m0, hm0⟩ : ∃ x, l[0]? = some x := ⟨l[0], List.getElem?_eq_getElem hne⟩
  obtain ⟨b, off, rfl, hb, hc⟩ := hI 0 (by omega)
  have c0 := hc 0 m0 (hgN 0 m0 hm0)
  rw [Nat.add_zero] at c0
  have Hc := Lib.hid hc
  have HN := Lib.hid hgN
  have HL := Lib.hid hl
  have HlN := Lib.hid hlenN
  have HV := Lib.hid V
  have Hm0 := Lib.hid hm0
  clear hc hgN hl hlenN hI V hm0
  go_enter Try.func15, Try.ntmps15
  go_wp2
  go_loopg [5, 6] (l.length - 1) (fun g mv i wr => ∃ (k m : Nat), 1 ≤ k ∧ k ≤ l.length ∧ g = l.length - k ∧ i = .int .i64 k ∧ mv = .int .i64 (m : Nat) ∧ w.Since w.heap.size wr ∧ Hid (BestOf rule js left (l.take k) m))
  case atStart =>
    have h0 : l.take 1 = [m0] := by
      have := Hm0.out
      match l, this with
      | x :: _, e => simp at e; simp [e]
    exact ⟨1, m0, by omega, by omega, by omega, rfl, rfl, World.Since.refl _ _, Lib.hid ⟨by rw [h0]; simp, fun j hj => by rw [h0] at hj; simp at hj; subst hj; right; exact ⟨rfl, Nat.le_refl _⟩⟩⟩
  case round =>
    obtain ⟨k, m, hk1, hk, rfl, rfl, rfl, hs, hB⟩ := hrel
    by_cases hkl : k < l.length
    · have hkz : (k : Int) < (l.length : Int) := by omega
      obtain ⟨x, hx⟩ : ∃ x, l[k]? = some x := ⟨l[k], List.getElem?_eq_getElem hkl⟩
      have ck := Hc.out k x (HN.out k x hx)
      rw [← hs.cell (show b < w.heap.size from hb)] at ck
      have hxl : x < js.length := HL.out x (List.mem_of_getElem? hx)
      have hml : m < js.length := HL.out m (List.mem_of_mem_take hB.out.mem)
      have C := Lib.hid (cf_any (HV.out.since hs) hlen h1 h6 hxl hml)
      have ht : l.take (k + 1) = l.take k ++ [x] := take_snoc' hx
      have Ht := Lib.hid ht
      clear ht hx hxl hml
      obtain ⟨v, hv⟩ : ∃ v, v = cf rule js left x m := ⟨_, rfl⟩
      rw [← hv] at C
      have Hv := Lib.hid hv
      clear hv
      by_cases hneg : v < 0
      · go_wp2_with fail
        refine C.out.mono ?_
        rintro e w2 ⟨rfl, hs2⟩
        have hs3 := since_join hs hs2
        have ck2 : w2.cell? ⟨b, off + k, none⟩ = some (.int .i64 (x : Int)) := by
          rw [hs2.cell (show b < wr.heap.size by have := hs.size; omega)]; exact ck
        go_wp2
        go_roundg (l.length - (k + 1))
        case measure => go_light; omega
        case rel =>
          go_light
          refine ⟨k + 1, x, by omega, by omega, rfl, by go_num, rfl, hs3, Lib.hid ?_⟩
          have hn := cf_neg.1 (Hv.out ▸ hneg)
          rw [Ht.out]
          refine ⟨by simp, fun j hj => ?_⟩
          rcases List.mem_append.1 hj with hj | hj
          · have := hB.out.least j hj
            omega
          · simp at hj; subst hj; right; exact ⟨rfl, Nat.le_refl _⟩
      · go_wp2_with fail
        refine C.out.mono ?_
        rintro e w2 ⟨rfl, hs2⟩
        have hs3 := since_join hs hs2
        go_wp2
        go_roundg (l.length - (k + 1))
        case measure => go_light; omega
        case rel =>
          go_light
          refine ⟨k + 1, m, by omega, by omega, rfl, by go_num, rfl, hs3, Lib.hid ?_⟩
          have hn : ¬ _ := fun t => absurd (Hv.out ▸ cf_neg.2 t) (by omega)
          rw [Ht.out]
          refine ⟨List.mem_append_left _ hB.out.mem, fun j hj => ?_⟩
          rcases List.mem_append.1 hj with hj | hj
          · exact hB.out.least j hj
          · simp at hj; subst hj; omega
    · obtain rfl : l.length = k := by omega
      go_wp2
      go_ret
      have := hB.out
      rw [List.take_of_length_le (Nat.le_refl _)] at this
      exact ⟨hs, m, this, rfl⟩
end Go.Proofs.Ytekjddcckkelnaa
