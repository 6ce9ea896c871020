/- Rows of ints of the call's own, known whole, that grow by append and may begin behind their block's head. (From the template XIRow.) -/
import Derived.Test.YtpdpninbamgeiaaOwnB
import Derived.ArgAppend
import Derived.Lib.AppendZeros
import Derived.Deep.RegionLaw
namespace Go.Proofs.Ytpdpninbamgeiaa
open Go.RowKit

theorem underlyingR : Try.prog.underlying 35 = some (.slice 3) := by kernel_rfl
/-- a slice of ints: nil, or in a block whose cells are known (z: it begins at the block's head, and ends at its end) -/
def IRow (w : World) (base : Nat) (z : Bool) (v : Value) (xs : List Int) : Prop :=
  (v = .slice none 0 0 ∧ xs = []) ∨ ∃ (g o c N : Nat) (f : Nat → Value), v = .slice (some ⟨g, o, none⟩) xs.length c ∧ base ≤ g ∧ xs.length ≤ c ∧ o + c ≤ N ∧ N ≤ maxLen ∧ w.rowIs g 3 N f ∧
    (∀ (i : Nat) (x : Int), xs[i]? = some x → f (o + i) = .int .i64 x) ∧ (z = true → o = 0 ∧ c = N ∧ ∀ i, xs.length ≤ i → i < N → f i = .int .i64 0)
theorem irow_nil (w : World) (base : Nat) (z : Bool) : IRow w base z (.slice none 0 0) [] := .inl ⟨rfl, rfl⟩
section
variable {w w' : World} {base : Nat} {z : Bool} {v : Value} {xs : List Int}
theorem IRow.block (h : IRow w base z v xs) (hb : ∀ g, v.ownBlock = some g → w'.heap[g]? = w.heap[g]?) : IRow w' base z v xs := by
  rcases h with h | ⟨g, o, c, N, f, rfl, h1, h2, h3, h4, h5, h6⟩
  · exact .inl h
  · exact .inr ⟨g, o, c, N, f, rfl, h1, h2, h3, h4, h5.of_block (hb g rfl), h6⟩
theorem IRow.lt (h : IRow w base z v xs) : ∀ k, v.ownBlock = some k → base ≤ k ∧ k < w.heap.size := fun k hk => by
  rcases h with ⟨rfl, _⟩ | ⟨g, o, c, N, f, rfl, h1, h2, h3, h4, h5, h6⟩
  · simp [Value.ownBlock] at hk
  · simp [Value.ownBlock] at hk
    subst hk
    exact ⟨h1, h5.lt⟩
theorem IRow.same (h : IRow w base z v xs) (hs : w.Since w.heap.size w') : IRow w' base z v xs := h.block (fun g hg => hs.block g (h.lt g hg).2)
theorem IRow.form (h : IRow w base z v xs) : ∃ A c, v = .slice A xs.length c ∧ xs.length ≤ c ∧ c ≤ maxLen := by
  rcases h with ⟨rfl, rfl⟩ | ⟨g, o, c, N, f, rfl, h1, h2, h3, h4, h5, h6⟩
  · exact ⟨none, 0, rfl, Nat.le_refl _, by unfold maxLen; omega⟩
  · exact ⟨_, c, rfl, h2, by omega⟩
theorem IRow.ints (h : IRow w base z v xs) {A : Option Addr} {n c : Nat} (hv : v = .slice A n c) : IntsAt w A xs := fun k hk => by
  rcases h with ⟨rfl, rfl⟩ | ⟨g, o, c', N, f, rfl, h1, h2, h3, h4, h5, h6, _⟩
  · simp at hk
  · injection hv with e1 _ _
    subst e1
    refine ⟨g, o, rfl, h5.lt, fun k x hx => ?_⟩
    have := (List.getElem?_eq_some_iff.1 hx).1
    rw [h5.cell (by omega), h6 k x hx]
theorem zeros_at (n j : Nat) (hj : j < n) : (Builtin.zeroCells #[Value.int .i64 0] n)[j]? = some (.int .i64 0) := by
  unfold Builtin.zeroCells
  rw [Array.getElem?_map, Array.getElem?_range, if_pos (by simpa using hj)]
  simp [Nat.mod_one]
/-- a new block: what was there, one more, noughts -/
theorem new_row (W : World) (xs : List Int) (x : Int) (m : Nat) (hm : xs.length + 1 + m ≤ maxLen) (hB : base ≤ W.heap.size) :
    IRow (W.alloc (.cells ((xs.map (Value.int .i64)).toArray ++ [Value.int .i64 x].toArray ++ Builtin.zeroCells #[Value.int .i64 0] m) 3)) base z (.slice (some ⟨W.heap.size, 0, none⟩) (xs ++ [x]).length (xs.length + 1 + m)) (xs ++ [x]) := by
  have hsz : ((xs.map (Value.int .i64)).toArray ++ [Value.int .i64 x].toArray ++ Builtin.zeroCells #[Value.int .i64 0] m).size = xs.length + 1 + m := by
    simp only [Array.size_append, List.size_toArray, List.length_map, size_zeroCells]
    simp
  have hat : ∀ i, i < xs.length + 1 + m → ((xs.map (Value.int .i64)).toArray ++ [Value.int .i64 x].toArray ++ Builtin.zeroCells #[Value.int .i64 0] m)[i]? = some (if h : i < (xs ++ [x]).length then .int .i64 (xs ++ [x])[i] else .int .i64 0) := fun i hi => by
    by_cases h : i < (xs ++ [x]).length
    · rw [dif_pos h]
      have e : ((xs.map (Value.int .i64)).toArray ++ [Value.int .i64 x].toArray) = ((xs ++ [x]).map (Value.int .i64)).toArray := by simp
      rw [Array.getElem?_append_left (by simpa using h), e, List.getElem?_toArray, List.getElem?_map, List.getElem?_eq_getElem h]; rfl
    · rw [dif_neg h]
      simp at h
      rw [Array.getElem?_append_right (by simpa using h)]
      exact zeros_at m _ (by simp; omega)
  refine .inr ⟨W.heap.size, 0, xs.length + 1 + m, xs.length + 1 + m, fun i => if h : i < (xs ++ [x]).length then .int .i64 (xs ++ [x])[i] else .int .i64 0, rfl, hB, by simp, by omega, hm, ?_, fun i y hy => ?_, fun _ => ⟨rfl, rfl, fun i h1 h2 => ?_⟩⟩
  · have := World.rowIs_alloc W _ 3 (fun i => if h : i < (xs ++ [x]).length then .int .i64 (xs ++ [x])[i] else .int .i64 0) (fun i hi => hat i (by rw [← hsz]; exact hi))
    rw [hsz] at this
    exact this
  · obtain ⟨hi, he⟩ := List.getElem?_eq_some_iff.1 hy
    simp only [Nat.zero_add]
    rw [dif_pos hi, he]
  · exact dif_neg (by omega)
/-- append of one -/
theorem irow_appendT {t : TypeId} (ht : Try.prog.underlying t = some (.slice 3)) (h : IRow w base z v xs) (hB : base ≤ w.heap.size) {x : Int} {a : Addr} (ha : w.cell? a = some (.int .i64 x)) (ty : TypeId) (c0 : Nat) (hn : xs.length ≤ 1000000000) :
    ∃ v' w', (Builtin.append_ #[t, t] ty #[v, .slice (some a) 1 c0]).run Try.prog w = .ok v' w' ∧ IRow w' base z v' (xs ++ [x]) ∧ w.grownBy w' v.ownBlock ∧ (v'.ownBlock = v.ownBlock ∨ v'.ownBlock = some w.heap.size) := by
  obtain ⟨i0, hi, hz, hsz, hby⟩ := info_parts info_intO
  have hnews : ∀ j u, [Value.int .i64 x][j]? = some u → w.cell? (a.add j) = some u := fun j u hu => by
    match j, hu with
    | 0, hu => simp at hu; subst hu; simpa [Addr.add] using ha
  have hl : [Value.int .i64 x].length = 1 * i0.size := by rw [hsz]; rfl
  rcases h with ⟨rfl, rfl⟩ | ⟨g, o, c, N, f, rfl, h1, h2, h3, h4, h5, h6, h8⟩
  · have hr := run_append_nil (P := Try.prog) w t ty 3 i0 _ ht hi hz a 1 c0 _ hl hnews (by omega) (by omega) (by rw [hby]; omega)
    have hge := grownCap_ge w 1 0 3
    have hcm := grownCap_le_maxLen w 1 0 3 (by unfold maxLen; omega)
    refine ⟨_, _, hr, ?_, ⟨rfl, rfl, rfl, by simp, fun k hk _ => (World.grownBy_alloc w.drew _ none).block k hk (by simp)⟩, .inr rfl⟩
    have := new_row (base := base) (z := z) w.drew [] x (grownCap w 1 0 3 - 1) (by simp only [List.length_nil]; omega) hB
    simp only [List.length_nil, Nat.zero_add, List.map_nil, List.nil_append, Array.empty_append] at this
    rw [show 1 + (grownCap w 1 0 3 - 1) = grownCap w 1 0 3 by omega] at this
    exact this
  · by_cases hroom : xs.length + 1 ≤ c
    · have hcell := h5.cell (i := o + xs.length) (by omega)
      have hr := run_append_room_cells (P := Try.prog) w t ty 3 i0 ht hi g o xs.length c a 1 c0 [Value.int .i64 x] hl hnews (by intro u hu; simp at hu; subst hu; rfl) hroom
        (fun j hj => by
          simp at hj; subst hj
          rw [hsz, Nat.mul_one, Nat.add_zero, hcell]; rfl)
        (fun j _ => h5.frozen _)
      rw [hsz, Nat.mul_one] at hr
      refine ⟨_, _, hr, .inr ⟨g, o, c, N, fun i => if i = o + xs.length then .int .i64 x else f i, by simp, h1, by simpa using hroom, h3, h4, h5.set _ _, fun i y hy => ?_, fun hz => ?_⟩, ?_, .inl rfl⟩
      · by_cases e : i < xs.length
        · rw [List.getElem?_append_left e] at hy
          simp only
          rw [if_neg (by omega)]
          exact h6 i y hy
        · have hi2 := (List.getElem?_eq_some_iff.1 hy).1
          simp at hi2
          have : i = xs.length := by omega
          subst this
          rw [List.getElem?_append_right (Nat.le_refl _)] at hy
          simp at hy
          subst hy
          simp
      · obtain ⟨z1, z2, z3⟩ := h8 hz
        refine ⟨z1, z2, fun i i1 i2 => ?_⟩
        simp at i1
        simp only
        rw [if_neg (by omega)]
        exact z3 i (by omega) i2
      · exact ⟨rfl, rfl, rfl, by simp [World.setCells], fun k _ hk => Below.heap_setCell w ⟨g, o + xs.length, none⟩ _ k (fun e => hk (by simp [Value.ownBlock, e]))⟩
    · have hr := run_append_grow (P := Try.prog) w t ty 3 i0 _ ht hi hz ⟨g, o, none⟩ xs.length c (xs.map (Value.int .i64)) (by rw [hsz]; simp)
        (fun j u hu => by
          rw [List.getElem?_map, Option.map_eq_some_iff] at hu
          obtain ⟨y, hy, rfl⟩ := hu
          have hj := (List.getElem?_eq_some_iff.1 hy).1
          have : (⟨g, o, none⟩ : Addr).add j = ⟨g, o + j, none⟩ := by
            unfold Addr.add
            split
            · rename_i e; subst e; rfl
            · rfl
          rw [this, h5.cell (by omega), h6 j y hy])
        a 1 c0 _ hl hnews (by omega) (by omega) (growslice_fits (by omega) (by rw [hby]; omega))
      have hge := grownCap_ge w (xs.length + 1) c 3
      have hcm := grownCap_le_maxLen w (xs.length + 1) c 3 (by unfold maxLen; omega)
      refine ⟨_, _, hr, ?_, ⟨rfl, rfl, rfl, by simp, fun k hk _ => (World.grownBy_alloc w.drew _ none).block k hk (by simp)⟩, .inr rfl⟩
      have := new_row (base := base) (z := z) w.drew xs x (grownCap w (xs.length + 1) c 3 - (xs.length + 1)) (by omega) hB
      rw [show xs.length + 1 + (grownCap w (xs.length + 1) c 3 - (xs.length + 1)) = grownCap w (xs.length + 1) c 3 by omega] at this
      have e : (xs ++ [x]).length = xs.length + 1 := by simp
      rw [e] at this
      exact this
theorem irow_append (h : IRow w base z v xs) (hB : base ≤ w.heap.size) {x : Int} {a : Addr} (ha : w.cell? a = some (.int .i64 x)) (ty : TypeId) (c0 : Nat) (hn : xs.length ≤ 1000000000) :
    ∃ v' w', (Builtin.append_ #[35, 35] ty #[v, .slice (some a) 1 c0]).run Try.prog w = .ok v' w' ∧ IRow w' base z v' (xs ++ [x]) ∧ w.grownBy w' v.ownBlock := by
  obtain ⟨v', w', h1, h2, h3, _⟩ := irow_appendT underlyingR h hB ha ty c0 hn
  exact ⟨v', w', h1, h2, h3⟩
theorem step_append_irow {t : TypeId} (ht : Try.prog.underlying t = some (.slice 3)) {ops : Array Oper} {o : Oper} {a : Act} {K : Act → World → Prop} {Q : Exit → Act → World → Prop} {E : Prop}
    (hg : o.guard = none) (s y : Operand) (hop : o.op = Op.call { callee := Callee.builtin Builtin.append, args := #[s, y], argTypes := #[t, t] })
    (hs : a.eval s = v) (h : IRow w base z v xs) (hB : base ≤ w.heap.size) {x : Int} {ad : Addr} {c0 : Nat} (hx : a.eval y = .slice (some ad) 1 c0) (ha : w.cell? ad = some (.int .i64 x)) (hn : xs.length ≤ 1000000000)
    (hK : ∀ v' w', IRow w' base z v' (xs ++ [x]) → w.grownBy w' v.ownBlock → (v'.ownBlock = v.ownBlock ∨ v'.ownBlock = some w.heap.size) → K (a.put o.dst v') w') :
    if Region.wanted o (yielded ops a.tmps) = true then Oper.wp Try.prog o a w K Q else E := by
  have hw : Region.wanted o (yielded ops a.tmps) = true := by simp [Region.wanted, hg]
  rw [if_pos hw]
  obtain ⟨v', w', hr, h1, h2, h3⟩ := irow_appendT ht h hB ha o.type c0 hn
  unfold Oper.wp
  simp [execOp, hop, resolve, invoke, builtin, hs, hx, hr, Result.andThen]
  exact hK v' w' h1 h2 h3
theorem IRow.grown {w2 : World} (hs : w.Since base w') (h : IRow w' base z v xs) (hg : w'.grownBy w2 v.ownBlock) (hB : base ≤ w'.heap.size) : w.Since base w2 := hs.grown hg hB (fun k hk => (h.lt k hk).1)
/-- a row that is not empty: its cells, a store into it -/
theorem IRow.at (h : IRow w base z v xs) (hn : 0 < xs.length) : ∃ g o c, v = .slice (some ⟨g, o, none⟩) xs.length c ∧ base ≤ g ∧ g < w.heap.size ∧ xs.length ≤ c ∧ c ≤ maxLen ∧ (∀ (i : Nat) (x : Int), xs[i]? = some x → w.cell? ⟨g, o + i, none⟩ = some (.int .i64 x)) ∧ (∀ i, w.frozen? ⟨g, i, none⟩ = false) ∧
    ∀ (i : Nat) (x : Int), i < xs.length → IRow (w.setCell ⟨g, o + i, none⟩ (.int .i64 x)) base z v (xs.set i x) := by
  rcases h with ⟨_, h⟩ | ⟨g, o, c, N, f, rfl, h1, h2, h3, h4, h5, h6, h8⟩
  · rw [h] at hn; simp at hn
  · refine ⟨g, o, c, rfl, h1, h5.lt, h2, by omega, fun i x hx => ?_, fun i => h5.frozen _, fun i x hi => .inr ⟨g, o, c, N, fun j => if j = o + i then .int .i64 x else f j, by simp, h1, by simpa using h2, h3, h4, h5.set _ _, fun j y hy => ?_, fun hz => ?_⟩⟩
    · have := (List.getElem?_eq_some_iff.1 hx).1
      rw [h5.cell (by omega), h6 i x hx]
    · by_cases e : j = i
      · subst e
        rw [List.getElem?_set_self hi] at hy
        injection hy with hy
        subst hy
        simp
      · rw [List.getElem?_set_ne (fun e2 => e e2.symm)] at hy
        simp only
        rw [if_neg (by omega)]
        exact h6 j y hy
    · obtain ⟨z1, z2, z3⟩ := h8 hz
      refine ⟨z1, z2, fun j j1 j2 => ?_⟩
      simp at j1
      simp only
      rw [if_neg (by omega)]
      exact z3 j j1 j2
/-- the last one is left away -/
theorem IRow.init (h : IRow w base false v xs) (hn : 0 < xs.length) : ∃ g o c, v = .slice (some ⟨g, o, none⟩) xs.length c ∧ IRow w base false (.slice (some ⟨g, o, none⟩) (xs.length - 1) c) (xs.take (xs.length - 1)) := by
  rcases h with ⟨_, h⟩ | ⟨g, o, c, N, f, rfl, h1, h2, h3, h4, h5, h6, h8⟩
  · rw [h] at hn; simp at hn
  · have hl : (xs.take (xs.length - 1)).length = xs.length - 1 := by rw [List.length_take]; omega
    refine ⟨g, o, c, rfl, .inr ⟨g, o, c, N, f, by rw [hl], h1, by omega, h3, h4, h5, fun j y hy => ?_, fun hz => by cases hz⟩⟩
    rw [List.getElem?_take] at hy
    split at hy
    · exact h6 j y hy
    · cases hy
/-- the first one is left away -/
theorem irow_tail {x : Int} (h : IRow w base false v (x :: xs)) : ∃ g o c, v = .slice (some ⟨g, o, none⟩) (xs.length + 1) c ∧ xs.length + 1 ≤ c ∧ c ≤ maxLen ∧
    IRow w base false (.slice (some ⟨g, o + 1, none⟩) xs.length (c - 1)) xs ∧ (c = 1 → IRow w base false (.slice (some ⟨g, o, none⟩) xs.length (c - 1)) xs) := by
  rcases h with ⟨_, h⟩ | ⟨g, o, c, N, f, rfl, h1, h2, h3, h4, h5, h6, h8⟩
  · cases h
  · simp only [List.length_cons] at h2
    refine ⟨g, o, c, rfl, h2, by omega, .inr ⟨g, o + 1, c - 1, N, f, rfl, h1, by omega, by omega, h4, h5, fun i y hy => ?_, fun h => by cases h⟩, fun hc => .inr ⟨g, o, c - 1, N, f, rfl, h1, by omega, by omega, h4, h5, fun i y hy => ?_, fun h => by cases h⟩⟩
    · rw [show o + 1 + i = o + (i + 1) by omega]
      exact h6 (i + 1) y (by simpa using hy)
    · have := (List.getElem?_eq_some_iff.1 hy).1
      omega
end
end Go.Proofs.Ytpdpninbamgeiaa
