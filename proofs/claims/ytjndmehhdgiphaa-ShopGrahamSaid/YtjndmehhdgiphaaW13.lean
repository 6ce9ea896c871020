/- shop: the machines that are spare: the methods behind heap.Interface. -/
import Derived.Test.YtjndmehhdgiphaaOwnB
import Derived.Test.YtjndmehhdgiphaaHeapM
import Derived.Deep.LoopGhost
import Derived.Deep.QuietTactic
import Derived.Deep.AppendLies
import Derived.BigQuiet
import Derived.RegionTactic
import Derived.ChangeAlike
import Derived.StillTailTactics
namespace Go.Proofs.Ytjndmehhdgiphaa
open Go.RowKit HeapM

theorem m_push (p : Nat) (w : World) : (method 192 57 (.pointer (some ⟨p, 0, none⟩)) "Push").run Try.prog w = .ok (62, .pointer (some ⟨p, 0, none⟩)) w := by kernel_rfl
theorem m_pop (p : Nat) (w : World) : (method 192 57 (.pointer (some ⟨p, 0, none⟩)) "Pop").run Try.prog w = .ok (61, .pointer (some ⟨p, 0, none⟩)) w := by kernel_rfl
theorem t57 (w : World) : (typeInfo 57).run Try.prog w = .ok ((Try.prog.info? 57).getD default) w := by kernel_rfl
theorem f57len : (((Try.prog.info? 57).getD default).methods.find? (·.name == "Len")).map (fun m => (m.path.toList, m.func)) = some ([], some (55, false)) := by kernel_rfl
theorem f57less : (((Try.prog.info? 57).getD default).methods.find? (·.name == "Less")).map (fun m => (m.path.toList, m.func)) = some ([], some (56, false)) := by kernel_rfl
theorem f57swap : (((Try.prog.info? 57).getD default).methods.find? (·.name == "Swap")).map (fun m => (m.path.toList, m.func)) = some ([], some (57, false)) := by kernel_rfl
theorem u57 (w : World) : (underlying 57).run Try.prog w = .ok (.pointer 54) w := by kernel_rfl
theorem wnc (a : Addr) (r : String) (w : World) : (Builtin.ssaWrapNilChk_ #[57] 57 #[.pointer (some a), strVal "", strVal r]).run Try.prog w = .ok (.pointer (some a)) w := rfl
theorem recv {p : Nat} {w : World} {v : Value} (hc : w.cell? ⟨p, 0, none⟩ = some v) (r : Option String) : (receiverAt 57 (.val (.pointer (some ⟨p, 0, none⟩))) false r).run Try.prog w = .ok v w := by
  unfold receiverAt
  cases r
  · simp only [Sem.run_bind, u57, Result.andThen_ok, Sem.run_pure, Place.get]
    go_simp
  · simp only [Sem.run_bind, u57, Result.andThen_ok, Sem.run_pure, Place.get, wnc]
    go_simp
theorem meth {p f : Nat} {w : World} {v : Value} {name : String} (hf : (((Try.prog.info? 57).getD default).methods.find? (·.name == name)).map (fun m => (m.path.toList, m.func)) = some ([], some (f, false))) (hc : w.cell? ⟨p, 0, none⟩ = some v) :
    (method 192 57 (.pointer (some ⟨p, 0, none⟩)) name).run Try.prog w = .ok (f, v) w := by
  obtain ⟨m, hm, hf⟩ := Option.map_eq_some_iff.1 hf
  simp only [Prod.mk.injEq] at hf
  obtain ⟨h1, h2⟩ := hf
  unfold method
  simp only [Sem.run_bind, t57, Result.andThen_ok, hm, h1, h2, follow, Sem.run_pure]
  rw [recv hc]
  rfl
theorem m_len {p : Nat} {w : World} {v : Value} (hc : w.cell? ⟨p, 0, none⟩ = some v) : (method 192 57 (.pointer (some ⟨p, 0, none⟩)) "Len").run Try.prog w = .ok (55, v) w := meth f57len hc
theorem m_less {p : Nat} {w : World} {v : Value} (hc : w.cell? ⟨p, 0, none⟩ = some v) : (method 192 57 (.pointer (some ⟨p, 0, none⟩)) "Less").run Try.prog w = .ok (56, v) w := meth f57less hc
theorem m_swap {p : Nat} {w : World} {v : Value} (hc : w.cell? ⟨p, 0, none⟩ = some v) : (method 192 57 (.pointer (some ⟨p, 0, none⟩)) "Swap").run Try.prog w = .ok (57, v) w := meth f57swap hc

/-- what a heap's method leaves: but for the variable's cell and its row all is as it was -/
structure Keeps (w w' : World) (p : Nat) (v v' : Value) : Prop where
  os : w'.os = w.os
  tape : w'.tape = w.tape
  output : w'.output = w.output
  size : w.heap.size ≤ w'.heap.size
  block : ∀ k, k < w.heap.size → k ≠ p → some k ≠ v.ownBlock → w'.heap[k]? = w.heap[k]?
  own : v'.ownBlock = v.ownBlock ∨ v'.ownBlock = none ∨ ∃ k, v'.ownBlock = some k ∧ w.heap.size ≤ k
theorem Keeps.refl (w : World) (p : Nat) (v : Value) : Keeps w w p v v := ⟨rfl, rfl, rfl, Nat.le_refl _, fun _ _ _ _ => rfl, .inl rfl⟩
theorem Keeps.trans {w w' w'' : World} {p : Nat} {v v' v'' : Value} (h : Keeps w w' p v v') (k : Keeps w' w'' p v' v'') : Keeps w w'' p v v'' :=
  ⟨k.os.trans h.os, k.tape.trans h.tape, k.output.trans h.output, Nat.le_trans h.size k.size, fun i hi hp hv => by
    rw [k.block i (Nat.lt_of_lt_of_le hi h.size) hp (fun e => by
      rcases h.own with h1 | h1 | ⟨j, h1, h2⟩
      · exact hv (by rw [e, h1])
      · rw [h1] at e; cases e
      · rw [h1] at e; injection e with e; omega)]
    exact h.block i hi hp hv, by
    rcases k.own with h1 | h1 | ⟨j, h1, h2⟩
    · rcases h.own with h3 | h3 | ⟨j, h3, h4⟩
      · exact .inl (h1.trans h3)
      · exact .inr (.inl (h1.trans h3))
      · exact .inr (.inr ⟨j, h1.trans h3, h4⟩)
    · exact .inr (.inl h1)
    · exact .inr (.inr ⟨j, h1, Nat.le_trans h.size h2⟩)⟩
theorem Keeps.drewN {w w' : World} {p : Nat} {v v' : Value} (h : Keeps w w' p v v') (n : Nat) : Keeps w (w'.drewN n) p v v' := ⟨h.os, h.tape, h.output, h.size, h.block, h.own⟩
theorem Keeps.since {a w w' : World} {p : Nat} {v v' : Value} (h : Keeps w w' p v v') (hs : a.Since a.heap.size w) (hp : a.heap.size ≤ p) (hv : ∀ k, v.ownBlock = some k → a.heap.size ≤ k) : a.Since a.heap.size w' :=
  ⟨h.os.trans hs.os, h.tape.trans hs.tape, h.output.trans hs.output, Nat.le_trans hs.size h.size, fun k hk => by
    rw [h.block k (Nat.lt_of_lt_of_le hk hs.size) (by omega) (fun e => by have := hv k e.symm; omega)]
    exact hs.block k hk⟩
theorem keeps_row {w : World} {p g o c n i : Nat} (x : Value) : Keeps w (w.setCell ⟨g, i, none⟩ x) p (.slice (some ⟨g, o, none⟩) n c) (.slice (some ⟨g, o, none⟩) n c) :=
  ⟨rfl, rfl, rfl, by simp, fun k _ _ hv => Below.heap_setCell w ⟨g, i, none⟩ x k (fun e => hv (by simp [Value.ownBlock, e])), .inl rfl⟩
theorem keeps_of_since {w w' : World} {p : Nat} {v : Value} (h : w.Since w.heap.size w') : Keeps w w' p v v := ⟨h.os, h.tape, h.output, h.size, fun k hk _ _ => h.block k hk, .inl rfl⟩
theorem grown_keeps {w w' : World} {p : Nat} {v v' : Value} (hg : w.grownBy w' v.ownBlock) (ho : v'.ownBlock = v.ownBlock ∨ v'.ownBlock = some w.heap.size) : Keeps w w' p v v' :=
  ⟨hg.os, hg.tape, hg.output, hg.size, fun k hk _ hv => hg.block k hk hv, ho.elim .inl (fun h => .inr (.inr ⟨_, h, Nat.le_refl _⟩))⟩
theorem keeps_alloc (w : World) (p : Nat) (v : Value) (o : Obj) : Keeps w (w.alloc o) p v v := ⟨rfl, rfl, rfl, by simp, fun k hk _ _ => (World.grownBy_alloc w o none).block k hk (by simp), .inl rfl⟩
theorem keeps_set (w : World) (p : Nat) (v v' : Value) (x : Value) (h : v'.ownBlock = v.ownBlock ∨ v'.ownBlock = none ∨ ∃ k, v'.ownBlock = some k ∧ w.heap.size ≤ k) : Keeps w (w.setCell ⟨p, 0, none⟩ x) p v v' :=
  ⟨rfl, rfl, rfl, by simp, fun k _ hp _ => Below.heap_setCell w ⟨p, 0, none⟩ x k hp, h⟩

/-- when a machine is free, and which one -/
abbrev Pt := Int × Int
def ptV (x : Pt) : List Value := [.int .i64 x.1, .int .i64 x.2]
def ptsV (l : List Pt) : List Value := l.flatMap ptV
def valS (x : Pt) : Value := .iface 55 (.agg #[.int .i64 x.1, .int .i64 x.2])
def p0 : Pt := (0, 0)
theorem ptsV_len (o : List Pt) : (ptsV o).length = o.length * 2 := by
  unfold ptsV
  induction o with
  | nil => rfl
  | cons p o ih => rw [List.flatMap_cons, List.length_append, ih]; simp [ptV]; omega
theorem ptsV_snoc (o : List Pt) (p : Pt) : ptsV (o ++ [p]) = ptsV o ++ ptV p := by simp [ptsV]
theorem ptsV_get {o : List Pt} {k : Nat} {x : Pt} (h : o[k]? = some x) : (ptsV o)[k * 2]? = some (.int .i64 x.1) ∧ (ptsV o)[k * 2 + 1]? = some (.int .i64 x.2) := by
  induction o generalizing k with
  | nil => simp at h
  | cons q o ih =>
    have e : ptsV (q :: o) = ptV q ++ ptsV o := by simp [ptsV]
    rw [e]
    have el : (ptV q).length = 2 := rfl
    cases k with
    | zero => simp at h; subst h; exact ⟨rfl, rfl⟩
    | succ k =>
      simp at h
      obtain ⟨h1, h2⟩ := ih h
      rw [List.getElem?_append_right (by omega), List.getElem?_append_right (by omega), el, show (k + 1) * 2 - 2 = k * 2 by omega, show (k + 1) * 2 + 1 - 2 = k * 2 + 1 by omega]
      exact ⟨h1, h2⟩
theorem ptsV_set (o : List Pt) (k : Nat) (x : Pt) (hk : k < o.length) : ((ptsV o).set (k * 2) (.int .i64 x.1)).set (k * 2 + 1) (.int .i64 x.2) = ptsV (o.set k x) := by
  induction o generalizing k with
  | nil => simp at hk
  | cons q o ih =>
    have e : ∀ (q : Pt) (o : List Pt), ptsV (q :: o) = Value.int .i64 q.1 :: Value.int .i64 q.2 :: ptsV o := fun q o => by simp [ptsV, ptV]
    cases k with
    | zero => rw [List.set_cons_zero, e, e]; rfl
    | succ k =>
      rw [List.set_cons_succ, e, e, show (k + 1) * 2 = k * 2 + 1 + 1 by omega]
      simp only [List.set_cons_succ]
      rw [ih k (by simpa using hk)]
structure SpAt (w : World) (base p : Nat) (v : Value) (l : List Pt) : Prop where
  cell : w.cell? ⟨p, 0, none⟩ = some v
  fz : w.frozen? ⟨p, 0, none⟩ = false
  row : w.ownsRow base 55 2 v l.length (ptsV l)
  ne : v.ownBlock ≠ some p
theorem SpAt.since {w w' : World} {base p : Nat} {v : Value} {l : List Pt} (h : SpAt w base p v l) (hs : w.Since w.heap.size w') : SpAt w' base p v l := by
  have hp := World.block_lt_of_cell? _ _ h.cell
  exact ⟨by rw [World.cell?_of_block (w := w) (hs.block p hp)]; exact h.cell, by rw [World.frozen?_of_block (w := w) (hs.block p hp)]; exact h.fz, own_since' h.row hs, h.ne⟩
def LenPostS (n : Nat) (w : World) (e : Ending) (w' : World) : Prop := e = .returned (.int .i64 (n : Int)) ∧ w = w'
theorem slen_any {A : Option Addr} {n c : Nat} {w : World} : Calls Try.prog 55 #[.slice A n c] w (LenPostS n w) := by
  go_enter Try.func55, Try.ntmps55
  go_wp2
  go_ret
  exact ⟨rfl, rfl⟩
theorem isNaN_any (x : Int) (w : World) : Calls Try.prog 60 #[.int .i64 x] w fun e w' => e = .returned (.bool false) ∧ w = w' := by
  have hb : (x != x) = false := by simp
  go_enter Try.func60, Try.ntmps60
  go_wp2
  go_ret
  exact ⟨rfl, rfl⟩
/-- cmp.Compare -/
def cmpV (a b : Int) : Int := if a < b then -1 else if b < a then 1 else 0
theorem Compare_any (a b : Int) (w : World) : Calls Try.prog 59 #[.int .i64 a, .int .i64 b] w fun e w' => e = .returned (.int .i64 (cmpV a b)) ∧ w = w' := by
  obtain ⟨r, hr⟩ : ∃ r, r = cmpV a b := ⟨_, rfl⟩
  rw [← hr]
  by_cases h1 : a < b
  · obtain rfl : r = -1 := by rw [hr]; unfold cmpV; rw [if_pos h1]
    clear hr
    go_enter Try.func59, Try.ntmps59
    go_wp2_with fail
    refine (isNaN_any _ _).mono ?_
    rintro e w' ⟨rfl, rfl⟩
    go_wp2_with fail
    refine (isNaN_any _ _).mono ?_
    rintro e w' ⟨rfl, rfl⟩
    go_wp2
    go_ret
    exact ⟨rfl, rfl⟩
  have h1' : b ≤ a := by omega
  by_cases h2 : b < a
  · obtain rfl : r = 1 := by rw [hr]; unfold cmpV; rw [if_neg h1, if_pos h2]
    clear hr h1
    go_enter Try.func59, Try.ntmps59
    go_wp2_with fail
    refine (isNaN_any _ _).mono ?_
    rintro e w' ⟨rfl, rfl⟩
    go_wp2_with fail
    refine (isNaN_any _ _).mono ?_
    rintro e w' ⟨rfl, rfl⟩
    go_wp2
    go_ret
    exact ⟨rfl, rfl⟩
  have h2' : a ≤ b := by omega
  obtain rfl : r = 0 := by rw [hr]; unfold cmpV; rw [if_neg h1, if_neg h2]
  clear hr h1 h2
  go_enter Try.func59, Try.ntmps59
  go_wp2_with fail
  refine (isNaN_any _ _).mono ?_
  rintro e w' ⟨rfl, rfl⟩
  go_wp2_with fail
  refine (isNaN_any _ _).mono ?_
  rintro e w' ⟨rfl, rfl⟩
  go_wp2
  go_ret
  exact ⟨rfl, rfl⟩
/-- cmp.Or over two -/
def orV (a b : Int) : Int := if a ≠ 0 then a else b
set_option maxHeartbeats 1000000 in
theorem Or_any (g : Nat) (a b : Int) (w : World) (f : Nat → Value) (h : w.rowIs g 3 2 f) (h0 : f 0 = .int .i64 a) (h1 : f 1 = .int .i64 b) :
    Calls Try.prog 58 #[.slice (some ⟨g, 0, none⟩) 2 2] w fun e w' => e = .returned (.int .i64 (orV a b)) ∧ w = w' := by
  have c0 := h.cell (i := 0) (by omega)
  have c1 := h.cell (i := 1) (by omega)
  rw [h0] at c0
  rw [h1] at c1
  obtain ⟨r, hr⟩ : ∃ r, r = orV a b := ⟨_, rfl⟩
  rw [← hr]
  have Hr := Lib.hid hr
  clear h h0 h1 hr
  go_enter Try.func58, Try.ntmps58
  go_wp2
  go_loopg [8] 2 (fun g i wr => ∃ k : Nat, k ≤ 2 ∧ g = 2 - k ∧ i = .int .i64 k ∧ w = wr ∧ Hid ((1 ≤ k → a = 0) ∧ (2 ≤ k → b = 0)))
  case atStart => exact ⟨0, by omega, rfl, rfl, rfl, Lib.hid ⟨fun h => by omega, fun h => by omega⟩⟩
  case round =>
    obtain ⟨k, hk, rfl, rfl, rfl, hH⟩ := hrel
    match k, hk with
    | 0, _ =>
      by_cases ha : a = 0
      · have hab : (a != 0) = false := by simp [ha]
        have Ha := Lib.hid ha
        clear ha
        go_wp2
        go_roundg (2 - 1)
        case measure => go_light; omega
        case rel =>
          go_light
          exact ⟨1, by omega, rfl, by go_num, rfl, Lib.hid ⟨fun _ => Ha.out, fun h => by omega⟩⟩
      · have hab : (a != 0) = true := by simp [ha]
        go_wp2
        go_ret
        exact ⟨by rw [Hr.out]; unfold orV; rw [if_pos ha]; rfl, rfl⟩
    | 1, _ =>
      have ha := hH.out.1 (by omega)
      have Ha := Lib.hid ha
      clear ha
      by_cases hb : b = 0
      · have hab : (b != 0) = false := by simp [hb]
        have Hb := Lib.hid hb
        clear hb
        go_wp2
        go_roundg (2 - 2)
        case measure => go_light; omega
        case rel =>
          go_light
          exact ⟨2, by omega, rfl, by go_num, rfl, Lib.hid ⟨fun _ => Ha.out, fun _ => Hb.out⟩⟩
      · have hab : (b != 0) = true := by simp [hb]
        go_wp2
        go_ret
        exact ⟨by rw [Hr.out]; unfold orV; rw [if_neg (by simp [Ha.out])]; rfl, rfl⟩
    | 2, _ =>
      have ha := hH.out.1 (by omega)
      have hb := hH.out.2 (by omega)
      have hz : r = 0 := by rw [Hr.out]; unfold orV; rw [if_neg (by simp [ha]), hb]
      subst hz
      clear ha hb
      go_wp2
      go_ret
      exact ⟨rfl, rfl⟩
def ltS (a b : Pt) : Bool := decide (orV (cmpV a.1 b.1) (cmpV a.2 b.2) < 0)
theorem ltS_iff {a b : Pt} : ltS a b = true ↔ a.1 < b.1 ∨ (a.1 = b.1 ∧ a.2 < b.2) := by
  unfold ltS orV cmpV
  rw [decide_eq_true_iff]
  by_cases h1 : a.1 < b.1
  · simp [h1]
  · by_cases h2 : b.1 < a.1
    · simp [h1, h2]; omega
    · have h3 : a.1 = b.1 := by omega
      simp [h3]
      by_cases h4 : a.2 < b.2
      · simp [h4]
      · by_cases h5 : b.2 < a.2
        · simp [h4, h5]
        · simp [h4, h5]
theorem ltS_ord : Ord ltS := by
  have hf : ∀ {a b : Pt}, ltS a b = false ↔ ¬ (a.1 < b.1 ∨ (a.1 = b.1 ∧ a.2 < b.2)) := fun {a b} => by rw [← ltS_iff]; simp
  refine ⟨fun a b h => ?_, fun a b c h1 h2 => ?_⟩
  · rw [ltS_iff] at h; rw [hf]; omega
  · rw [hf] at h1 h2 ⊢; omega
theorem stillc {P : Program} {f : FuncId} {args : Array Value} {w : World} {v : Value} (h : Calls P f args w fun e w' => e = .returned v ∧ w = w') : Calls P f args w fun e w' => e = .returned v ∧ w' = w := h.mono fun _ _ ⟨h1, h2⟩ => ⟨h1, h2.symm⟩
set_option maxHeartbeats 4000000 in
theorem sless_any {base p : Nat} {v : Value} {l : List Pt} {w : World} (h : SpAt w base p v l) {i k : Nat} (hi : i < l.length) (hk : k < l.length) :
    Calls Try.prog 56 #[v, .int .i64 (i : Int), .int .i64 (k : Int)] w fun e w' => e = .returned (.bool (ltS (l.getD i p0) (l.getD k p0))) ∧ w.Since w.heap.size w' := by
  obtain ⟨g, c, rfl, _, _, _, _, hc, _⟩ := own_at h.row (by omega)
  obtain ⟨i1, i2⟩ := ptsV_get (List.getElem?_eq_getElem hi)
  obtain ⟨k1, k2⟩ := ptsV_get (List.getElem?_eq_getElem hk)
  have c1 := hc _ _ i1
  have c2 := hc _ _ i2
  have d1 := hc _ _ k1
  have d2 := hc _ _ k2
  have e1 : Hid (l.getD i p0 = l[i]) := Lib.hid (by rw [List.getD_eq_getElem?_getD, List.getElem?_eq_getElem hi]; rfl)
  have e2 : Hid (l.getD k p0 = l[k]) := Lib.hid (by rw [List.getD_eq_getElem?_getD, List.getElem?_eq_getElem hk]; rfl)
  have hiz : (i : Int) < (l.length : Int) := by omega
  have hkz : (k : Int) < (l.length : Int) := by omega
  generalize l[i] = x at *
  generalize l[k] = y at *
  clear h hc i1 i2 k1 k2
  obtain ⟨x1, x2⟩ := x
  obtain ⟨y1, y2⟩ := y
  simp only at c1 c2 d1 d2
  have Hv : Hid (ltS (x1, x2) (y1, y2) = decide (orV (cmpV x1 y1) (cmpV x2 y2) < 0)) := Lib.hid rfl
  go_enter Try.func56, Try.ntmps56
  go_wp2
  refine wp_region_still_tail 22 (by kernel_rfl) (by kernel_rfl) ?_
  simp only [List.take_succ_cons, List.take_zero, List.drop_succ_cons, List.drop_zero]
  repeat still_step
  still_call (stillc (Compare_any x1 y1 _))
  repeat still_step
  still_call (stillc (Compare_any x2 y2 _))
  repeat still_step
  refine wpStill_nil ?_
  change wpList _ _ _ _ _ w.drew
  generalize cmpV x1 y1 = c1 at *
  generalize cmpV x2 y2 = c2 at *
  have hrow : ((w.alloc (Obj.cells #[Value.int IntKind.i64 c1, Value.int IntKind.i64 c2] 3)).drew).rowIs w.heap.size 3 2 (fun i => if i = 0 then .int .i64 c1 else .int .i64 c2) :=
    World.rowIs_alloc w #[Value.int IntKind.i64 c1, Value.int IntKind.i64 c2] 3 _ (fun i hi => by
      have hi' : i < 2 := hi
      match i, hi' with
      | 0, _ => rfl
      | 1, _ => rfl)
  have C := Lib.hid (Or_any w.heap.size c1 c2 _ _ hrow (by simp) (by simp))
  clear hrow
  go_wp2_with fail
  refine C.out.mono ?_
  rintro e w' ⟨rfl, rfl⟩
  go_wp2
  go_ret
  exact ⟨by rw [e1.out, e2.out, Hv.out]; rfl, ((World.Since.refl _ _).alloc (Nat.le_refl _) _).drew⟩
end Go.Proofs.Ytjndmehhdgiphaa
