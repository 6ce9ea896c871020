/- tape: the methods of a clock behind heap.Interface. -/
import Derived.Test.YtpdpninbamgeiaaIRow
import Derived.Test.YtpdpninbamgeiaaHeapM
import Derived.Deep.QuietTactic
import Derived.BigQuiet
import Derived.RegionTactic
import Derived.ChangeAlike
namespace Go.Proofs.Ytpdpninbamgeiaa
open Go.RowKit
theorem m_push (p : Nat) (w : World) : (method 176 45 (.pointer (some ⟨p, 0, none⟩)) "Push").run Try.prog w = .ok (39, .pointer (some ⟨p, 0, none⟩)) w := by kernel_rfl
theorem m_pop (p : Nat) (w : World) : (method 176 45 (.pointer (some ⟨p, 0, none⟩)) "Pop").run Try.prog w = .ok (38, .pointer (some ⟨p, 0, none⟩)) w := by kernel_rfl
theorem t45 (w : World) : (typeInfo 45).run Try.prog w = .ok ((Try.prog.info? 45).getD default) w := by kernel_rfl
theorem f45len : (((Try.prog.info? 45).getD default).methods.find? (·.name == "Len")).map (fun m => (m.path.toList, m.func)) = some ([], some (10, false)) := by kernel_rfl
theorem f45less : (((Try.prog.info? 45).getD default).methods.find? (·.name == "Less")).map (fun m => (m.path.toList, m.func)) = some ([], some (36, false)) := by kernel_rfl
theorem f45swap : (((Try.prog.info? 45).getD default).methods.find? (·.name == "Swap")).map (fun m => (m.path.toList, m.func)) = some ([], some (37, false)) := by kernel_rfl
theorem u45 (w : World) : (underlying 45).run Try.prog w = .ok (.pointer 43) w := by kernel_rfl
theorem wnc (a : Addr) (r : String) (w : World) : (Builtin.ssaWrapNilChk_ #[45] 45 #[.pointer (some a), strVal "", strVal r]).run Try.prog w = .ok (.pointer (some a)) w := rfl
theorem recv {p : Nat} {w : World} {v : Value} (hc : w.cell? ⟨p, 0, none⟩ = some v) (r : Option String) : (receiverAt 45 (.val (.pointer (some ⟨p, 0, none⟩))) false r).run Try.prog w = .ok v w := by
  unfold receiverAt
  cases r
  · simp only [Sem.run_bind, u45, Result.andThen_ok, Sem.run_pure, Place.get]
    go_simp
  · simp only [Sem.run_bind, u45, Result.andThen_ok, Sem.run_pure, Place.get, wnc]
    go_simp
theorem meth {p f : Nat} {w : World} {v : Value} {name : String} (hf : (((Try.prog.info? 45).getD default).methods.find? (·.name == name)).map (fun m => (m.path.toList, m.func)) = some ([], some (f, false))) (hc : w.cell? ⟨p, 0, none⟩ = some v) :
    (method 176 45 (.pointer (some ⟨p, 0, none⟩)) name).run Try.prog w = .ok (f, v) w := by
  obtain ⟨m, hm, hf⟩ := Option.map_eq_some_iff.1 hf
  simp only [Prod.mk.injEq] at hf
  obtain ⟨h1, h2⟩ := hf
  unfold method
  simp only [Sem.run_bind, t45, Result.andThen_ok, hm, h1, h2, follow, Sem.run_pure]
  rw [recv hc]
  rfl
theorem m_len {p : Nat} {w : World} {v : Value} (hc : w.cell? ⟨p, 0, none⟩ = some v) : (method 176 45 (.pointer (some ⟨p, 0, none⟩)) "Len").run Try.prog w = .ok (10, v) w := meth f45len hc
theorem m_less {p : Nat} {w : World} {v : Value} (hc : w.cell? ⟨p, 0, none⟩ = some v) : (method 176 45 (.pointer (some ⟨p, 0, none⟩)) "Less").run Try.prog w = .ok (36, v) w := meth f45less hc
theorem m_swap {p : Nat} {w : World} {v : Value} (hc : w.cell? ⟨p, 0, none⟩ = some v) : (method 176 45 (.pointer (some ⟨p, 0, none⟩)) "Swap").run Try.prog w = .ok (37, v) w := meth f45swap hc

theorem since_drewN {w wr : World} {B : Nat} (h : w.Since B wr) (n : Nat) : w.Since B (wr.drewN n) := ⟨h.os, h.tape, h.output, h.size, h.block⟩
theorem less_any {A : Option Addr} {c : Nat} {l : List Int} {w : World} (h : IntsAt w A l) {i k : Nat} (hi : i < l.length) (hk : k < l.length) :
    Calls Try.prog 36 #[.slice A l.length c, .int .i64 (i : Int), .int .i64 (k : Int)] w fun e w' => e = .returned (.bool (decide (l.getD i 0 < l.getD k 0))) ∧ ∃ n, w' = w.drewN n := by
  obtain ⟨b, off, rfl, hb, hc⟩ := h i hi
  have c1 := hc i _ (List.getElem?_eq_getElem hi)
  have c2 := hc k _ (List.getElem?_eq_getElem hk)
  have e1 : Hid (l.getD i 0 = l[i]) := Lib.hid (by rw [List.getD_eq_getElem?_getD, List.getElem?_eq_getElem hi]; rfl)
  have e2 : Hid (l.getD k 0 = l[k]) := Lib.hid (by rw [List.getD_eq_getElem?_getD, List.getElem?_eq_getElem hk]; rfl)
  have hiz : (i : Int) < (l.length : Int) := by omega
  have hkz : (k : Int) < (l.length : Int) := by omega
  generalize l[i] = x at *
  generalize l[k] = y at *
  clear h hc
  go_enter Try.func36, Try.ntmps36
  go_wp2
  go_quiet (fail)
  go_wp2
  go_ret
  exact ⟨by rw [e1.out, e2.out]; rfl, _, rfl⟩
theorem len_any {A : Option Addr} {n c : Nat} {w : World} : Calls Try.prog 10 #[.slice A n c] w fun e w' => e = .returned (.int .i64 (n : Int)) ∧ w = w' := by
  go_enter Try.func10, Try.ntmps10
  go_wp2
  go_ret
  exact ⟨rfl, rfl⟩
/-- what a heap's method leaves: but for the clock's cell and its row all is as it was -/
structure Keeps (w w' : World) (p : Nat) (v v' : Value) : Prop where
  os : w'.os = w.os
  tape : w'.tape = w.tape
  output : w'.output = w.output
  size : w.heap.size ≤ w'.heap.size
  block : ∀ k, k < w.heap.size → k ≠ p → some k ≠ v.ownBlock → w'.heap[k]? = w.heap[k]?
  own : v'.ownBlock = v.ownBlock ∨ v'.ownBlock = none ∨ ∃ k, v'.ownBlock = some k ∧ w.heap.size ≤ k
theorem Keeps.refl (w : World) (p : Nat) (v : Value) : Keeps w w p v v := ⟨rfl, rfl, rfl, Nat.le_refl _, fun _ _ _ _ => rfl, .inl rfl⟩
theorem Keeps.trans {w w' w'' : World} {p : Nat} {v v' v'' : Value} (h : Keeps w w' p v v') (k : Keeps w' w'' p v' v'') : Keeps w w'' p v v'' :=
  ⟨k.os.trans h.os, k.tape.trans h.tape, k.output.trans h.output, Nat.le_trans h.size k.size, fun i hi hp hv => by
    rw [k.block i (Nat.lt_of_lt_of_le hi h.size) hp (fun e => by
      rcases h.own with h1 | h1 | ⟨j, h1, h2⟩
      · exact hv (by rw [e, h1])
      · rw [h1] at e; cases e
      · rw [h1] at e; injection e with e; omega)]
    exact h.block i hi hp hv, by
    rcases k.own with h1 | h1 | ⟨j, h1, h2⟩
    · rcases h.own with h3 | h3 | ⟨j, h3, h4⟩
      · exact .inl (h1.trans h3)
      · exact .inr (.inl (h1.trans h3))
      · exact .inr (.inr ⟨j, h1.trans h3, h4⟩)
    · exact .inr (.inl h1)
    · exact .inr (.inr ⟨j, h1, Nat.le_trans h.size h2⟩)⟩
theorem Keeps.drewN {w w' : World} {p : Nat} {v v' : Value} (h : Keeps w w' p v v') (n : Nat) : Keeps w (w'.drewN n) p v v' := ⟨h.os, h.tape, h.output, h.size, h.block, h.own⟩
theorem Keeps.since {a w w' : World} {p : Nat} {v v' : Value} (h : Keeps w w' p v v') (hs : a.Since a.heap.size w) (hp : a.heap.size ≤ p) (hv : ∀ k, v.ownBlock = some k → a.heap.size ≤ k) : a.Since a.heap.size w' :=
  ⟨h.os.trans hs.os, h.tape.trans hs.tape, h.output.trans hs.output, Nat.le_trans hs.size h.size, fun k hk => by
    rw [h.block k (Nat.lt_of_lt_of_le hk hs.size) (by omega) (fun e => by have := hv k e.symm; omega)]
    exact hs.block k hk⟩
theorem keeps_row {w : World} {p g o c n i : Nat} (x : Value) : Keeps w (w.setCell ⟨g, i, none⟩ x) p (.slice (some ⟨g, o, none⟩) n c) (.slice (some ⟨g, o, none⟩) n c) :=
  ⟨rfl, rfl, rfl, by simp, fun k _ _ hv => Below.heap_setCell w ⟨g, i, none⟩ x k (fun e => hv (by simp [Value.ownBlock, e])), .inl rfl⟩
/-- a clock: a variable that holds a row of the call's own -/
structure ClkAt (w : World) (base p : Nat) (v : Value) (l : List Int) : Prop where
  cell : w.cell? ⟨p, 0, none⟩ = some v
  fz : w.frozen? ⟨p, 0, none⟩ = false
  row : IRow w base false v l
  ne : v.ownBlock ≠ some p
theorem ClkAt.drewN {w : World} {base p : Nat} {v : Value} {l : List Int} (h : ClkAt w base p v l) (n : Nat) : ClkAt (w.drewN n) base p v l := ⟨h.cell, h.fz, h.row.block (fun _ _ => rfl), h.ne⟩
open HeapM in
theorem swap_any {base p : Nat} {v : Value} {l : List Int} {w : World} (h : ClkAt w base p v l) {i k : Nat} (hi : i < l.length) (hk : k < l.length) :
    Calls Try.prog 37 #[v, .int .i64 (i : Int), .int .i64 (k : Int)] w fun e w' => e = .returned (.tuple #[]) ∧ ClkAt w' base p v (sw 0 l i k) ∧ Keeps w w' p v v := by
  obtain ⟨g, o, c, rfl, hg, hgl, hlc, _, hc, hf, hset⟩ := h.row.at (by omega)
  have hgp : g ≠ p := fun e => h.ne (by simp [Value.ownBlock, e])
  have c1 := hc i _ (List.getElem?_eq_getElem hi)
  have c2 := hc k _ (List.getElem?_eq_getElem hk)
  have f1 := hf (o + i)
  have f2 := hf (o + k)
  have e1 : l.getD i 0 = l[i] := by rw [List.getD_eq_getElem?_getD, List.getElem?_eq_getElem hi]; rfl
  have e2 : l.getD k 0 = l[k] := by rw [List.getD_eq_getElem?_getD, List.getElem?_eq_getElem hk]; rfl
  have hsw : sw 0 l i k = (l.set i l[k]).set k l[i] := by unfold sw; rw [e1, e2]
  have hiz : (i : Int) < (l.length : Int) := by omega
  have hkz : (k : Int) < (l.length : Int) := by omega
  rw [hsw]
  have Hset := Lib.hid hset
  have H := Lib.hid h
  have hl1 : (l.set i l[k]).length = l.length := by simp
  have hset2 : ∀ W, IRow W base false (.slice (some ⟨g, o, none⟩) l.length c) (l.set i l[k]) → IRow (W.setCell ⟨g, o + k, none⟩ (.int .i64 l[i])) base false (.slice (some ⟨g, o, none⟩) l.length c) ((l.set i l[k]).set k l[i]) := fun W hW => by
    obtain ⟨g', o', c', hv, _, _, _, _, _, _, hs'⟩ := hW.at (by rw [hl1]; omega)
    injection hv with hv1 hv2 hv3
    injection hv1 with hv1
    injection hv1 with hv1 hv4
    subst hv1 hv4
    exact hs' k _ (by rw [hl1]; exact hk)
  have Hset2 := Lib.hid hset2
  clear hset hset2 h hc hf e1 e2 hsw hl1
  obtain ⟨x, hx⟩ : ∃ x, x = l[i] := ⟨_, rfl⟩
  obtain ⟨y, hy⟩ : ∃ y, y = l[k] := ⟨_, rfl⟩
  rw [← hx] at c1 Hset2 ⊢
  rw [← hy] at c2 Hset2 ⊢
  have Hx := Lib.hid hx
  have Hy := Lib.hid hy
  clear hx hy
  have hcl : ∀ (W : World) (a b : Nat) (u t : Value), W.cell? ⟨p, 0, none⟩ = some (.slice (some ⟨g, o, none⟩) l.length c) → ((W.setCell ⟨g, a, none⟩ u).setCell ⟨g, b, none⟩ t).cell? ⟨p, 0, none⟩ = some (.slice (some ⟨g, o, none⟩) l.length c) := fun W a b u t h => by
    rw [World.cell?_setCell_other _ _ _ _ (by simp), World.cell?_setCell_other _ _ _ _ (by simp)]; exact h
  have hfz : ∀ (W : World) (a b : Nat) (u t : Value), ((W.setCell ⟨g, a, none⟩ u).setCell ⟨g, b, none⟩ t).frozen? ⟨p, 0, none⟩ = W.frozen? ⟨p, 0, none⟩ := fun W a b u t => by simp
  have Hcl := Lib.hid hcl
  have Hfz := Lib.hid hfz
  clear hcl hfz
  have fin : ∀ W', W' = ((w.setCell ⟨g, o + i, none⟩ (.int .i64 y)).setCell ⟨g, o + k, none⟩ (.int .i64 x)).drew → ClkAt W' base p (.slice (some ⟨g, o, none⟩) l.length c) ((l.set i y).set k x) ∧ Keeps w W' p (.slice (some ⟨g, o, none⟩) l.length c) (.slice (some ⟨g, o, none⟩) l.length c) := fun W' e => by
    subst e
    refine ⟨⟨Hcl.out w _ _ _ _ H.out.cell, ?_, ?_, H.out.ne⟩, ((keeps_row _).trans (keeps_row _)).drewN 1⟩
    · show World.frozen? (World.setCell _ _ _) _ = false
      rw [Hfz.out]; exact H.out.fz
    · have := Hset2.out _ (Hset.out i y hi)
      exact this.block (fun _ _ => rfl)
  have Fin := Lib.hid fin
  clear fin
  by_cases hik : i = k
  · subst hik
    have hxy : x = y := by rw [c1] at c2; injection c2 with c2; injection c2
    subst hxy
    go_enter Try.func37, Try.ntmps37
    go_region
    all_goals
      go_wp2
      go_end0
      exact ⟨rfl, Fin.out _ rfl⟩
  · have hne : o + i ≠ o + k := by omega
    have hne2 : o + k ≠ o + i := by omega
    go_enter Try.func37, Try.ntmps37
    go_region
    all_goals
      go_wp2
      go_end0
      exact ⟨rfl, Fin.out _ rfl⟩
end Go.Proofs.Ytpdpninbamgeiaa
