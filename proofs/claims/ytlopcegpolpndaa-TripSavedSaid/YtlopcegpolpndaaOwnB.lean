/- Rows of the call's own that grow by append: their cells, stores into them, what leaves them as they are. (From the template XOwnB.) -/
import Derived.Test.YtlopcegpolpndaaDelB
import Derived.Laws.AppendOwn
namespace Go.Proofs.Ytlopcegpolpndaa
open Go.RowKit

section
variable {w w' : World} {base : Nat} {e : TypeId} {size : Nat} {v : Value} {n : Nat} {xs : List Value}
theorem info_intO : (Try.prog.info? 3).map (fun i => (i.zero, i.size, i.bytes)) = some (some (.int .i64 0), 1, 8) := by kernel_rfl
theorem one_newB (w : World) (u : Value) (t : TypeId) : ∀ (j : Nat) (x : Value), [u][j]? = some x → (w.alloc (.cells #[u] t)).cell? ((⟨w.heap.size, 0, none⟩ : Addr).add j) = some x := by
  intro j x hx
  match j with
  | 0 => simp at hx; subst hx; rw [show (⟨w.heap.size, 0, none⟩ : Addr).add 0 = ⟨w.heap.size, 0, none⟩ from rfl, World.cell?_alloc_at _ _ _ _ rfl]; rfl
  | j + 1 => simp at hx
theorem own_len (h : w.ownsRow base e size v n xs) : xs.length = n * size := h.1
/-- a row that is not empty -/
theorem own_at (h : w.ownsRow base e size v n xs) (hn : 0 < n) : ∃ g cap, v = .slice (some ⟨g, 0, none⟩) n cap ∧ base ≤ g ∧ g < w.heap.size ∧ n ≤ cap ∧ cap ≤ maxLen ∧ (∀ j x, xs[j]? = some x → w.cell? ⟨g, j, none⟩ = some x) ∧ ∀ j, w.frozen? ⟨g, j, none⟩ = false := by
  rcases h.2 with ⟨_, h0⟩ | ⟨g, cap, cur, hv, hb, hg, h1, h2, h3, h4⟩
  · omega
  · refine ⟨g, cap, hv, hb, (Array.getElem?_eq_some_iff.1 hg).1, h1, h2, fun j x hx => ?_, fun j => by simp [World.frozen?, hg]⟩
    rw [← h4, List.getElem?_take] at hx
    split at hx
    · rw [Array.getElem?_toList] at hx
      simp [World.cell?, hg, hx]
    · cases hx
theorem own_form (h : w.ownsRow base e size v n xs) : ∃ A cap, v = .slice A n cap ∧ n ≤ cap ∧ cap ≤ maxLen := by
  rcases h.2 with ⟨hv, h0⟩ | ⟨g, cap, cur, hv, _, _, h1, h2, _⟩
  · subst h0; exact ⟨none, 0, hv, Nat.le_refl _, by unfold maxLen; omega⟩
  · exact ⟨_, cap, hv, h1, h2⟩
theorem own_block (h : w.ownsRow base e size v n xs) (hb : ∀ g, v.ownBlock = some g → w'.heap[g]? = w.heap[g]?) : w'.ownsRow base e size v n xs := by
  refine ⟨h.1, ?_⟩
  rcases h.2 with hn | ⟨g, cap, cur, rfl, hle, hg, rest⟩
  · exact .inl hn
  · exact .inr ⟨g, cap, cur, rfl, hle, by rw [hb g rfl]; exact hg, rest⟩
theorem own_since' (h : w.ownsRow base e size v n xs) (hs : w.Since w.heap.size w') : w'.ownsRow base e size v n xs :=
  own_block h (fun g hg => hs.block g (h.lt g hg).2)
theorem own_only {B : Nat} (h : w.ownsRow base e size v n xs) (hs : OnlyD w w' B) (hne : v.ownBlock ≠ some B) : w'.ownsRow base e size v n xs :=
  own_block h (fun g hg => hs.block g (h.lt g hg).2 (fun e => hne (by rw [hg, e])))
theorem own_setOther (h : w.ownsRow base e size v n xs) {a : Addr} (hne : v.ownBlock ≠ some a.block) (x : Value) : (w.setCell a x).ownsRow base e size v n xs :=
  own_block h (fun g hg => by
    have : g ≠ a.block := fun e => hne (by rw [hg, e])
    exact Below.heap_setCell w a x g this)
theorem own_below (h : w.ownsRow base e size v n xs) {b : Nat} (hb : b < base) : v.ownBlock ≠ some b := fun e => by have := (h.lt b e).1; omega
/-- rows of two kinds of elements lie apart -/
theorem own_apart {e' : TypeId} {size' n' base' : Nat} {v' : Value} {xs' : List Value} (h : w.ownsRow base e size v n xs) (h' : w.ownsRow base' e' size' v' n' xs') (hne : e ≠ e') {g : Nat} (hg : v'.ownBlock = some g) : v.ownBlock ≠ some g := fun e2 => by
  rcases h.2 with ⟨rfl, _⟩ | ⟨g1, cap, cur, rfl, _, hg1, _⟩
  · simp [Value.ownBlock] at e2
  · rcases h'.2 with ⟨rfl, _⟩ | ⟨g2, cap2, cur2, rfl, _, hg2, _⟩
    · simp [Value.ownBlock] at hg
    · simp [Value.ownBlock] at hg e2
      subst hg e2
      rw [hg1] at hg2
      injection hg2 with h3
      injection h3 with _ h4
      exact hne h4
theorem own_rowApart {b N : Nat} {t : TypeId} {f : Nat → Value} (h : w.ownsRow base e size v n xs) (hr : w.rowIs b t N f) (hne : e ≠ t) : v.ownBlock ≠ some b := fun e2 => by
  rcases h.2 with ⟨rfl, _⟩ | ⟨g1, cap, cur, rfl, _, hg1, _⟩
  · simp [Value.ownBlock] at e2
  · simp [Value.ownBlock] at e2
    subst e2
    obtain ⟨c, hc, _⟩ := hr
    rw [hg1] at hc
    injection hc with h3
    injection h3 with _ h4
    exact hne h4
/-- a store into the row -/
theorem own_set (h : w.ownsRow base e size v n xs) {g : Nat} (hg : v.ownBlock = some g) (j : Nat) (x : Value) : (w.setCell ⟨g, j, none⟩ x).ownsRow base e size v n (xs.set j x) := by
  refine ⟨by rw [List.length_set]; exact h.1, ?_⟩
  rcases h.2 with ⟨rfl, _⟩ | ⟨g1, cap, cur, rfl, hb, hg1, h1, h2, h3, h4⟩
  · simp [Value.ownBlock] at hg
  · simp [Value.ownBlock] at hg
    subst hg
    refine .inr ⟨g1, cap, cur.setIfInBounds j x, rfl, hb, ?_, h1, h2, by simpa using h3, ?_⟩
    · simp [World.setCell, Array.getElem?_modify, hg1]
    · rw [Array.toList_setIfInBounds, List.take_set, h4]
/-- as a row of one cell an element -/
theorem own_rowIs (h : w.ownsRow base e 1 v n xs) (hn : 0 < n) : ∃ g cap f, v = .slice (some ⟨g, 0, none⟩) n cap ∧ base ≤ g ∧ n ≤ cap ∧ cap ≤ maxLen ∧ w.rowIs g e cap f ∧ ∀ j x, xs[j]? = some x → f j = x := by
  rcases h.2 with ⟨_, h0⟩ | ⟨g, cap, cur, hv, hb, hg, h1, h2, h3, h4⟩
  · omega
  · refine ⟨g, cap, fun j => cur[j]?.getD undef, hv, hb, h1, h2, ⟨cur, hg, by omega, fun i hi => ?_⟩, fun j x hx => ?_⟩
    · show cur[i]? = some (cur[i]?.getD undef)
      rw [Array.getElem?_eq_getElem (show i < cur.size by omega)]; rfl
    · rw [← h4, List.getElem?_take] at hx
      split at hx
      · rw [Array.getElem?_toList] at hx
        simp [hx]
      · cases hx
theorem own_ofRow {g cap : Nat} {f : Nat → Value} (hr : w.rowIs g e cap f) (hb : base ≤ g) (hn : n ≤ cap) (hc : cap ≤ maxLen) (hl : xs.length = n) (hx : ∀ j x, xs[j]? = some x → f j = x) : w.ownsRow base e 1 (.slice (some ⟨g, 0, none⟩) n cap) n xs := by
  obtain ⟨c, hg, hs, hcx⟩ := hr
  refine ⟨by omega, .inr ⟨g, cap, c, rfl, hb, hg, hn, hc, by omega, ?_⟩⟩
  apply List.ext_getElem?
  intro i
  rw [List.getElem?_take]
  split
  · rw [Array.getElem?_toList, hcx i (by omega)]
    have : i < xs.length := by omega
    rw [List.getElem?_eq_getElem this, hx i _ (List.getElem?_eq_getElem this)]
  · rw [List.getElem?_eq_none (by omega)]
theorem own_grown (hs : w.Since base w') {w2 : World} (hown : w'.ownsRow base e size v n xs) (hg : w'.grownBy w2 v.ownBlock) (hB : base ≤ w'.heap.size) : w.Since base w2 :=
  hs.grown hg hB (fun g hg => (hown.lt g hg).1)
/-- ints of the row, as a slice of ints -/
theorem own_ints {ys : List Int} (h : w.ownsRow base 3 1 v n (ys.map (Value.int .i64))) {A : Option Addr} {cap : Nat} (hv : v = .slice A n cap) : IntsAt w A ys := fun k hk => by
  have hl := h.1
  rw [List.length_map] at hl
  obtain ⟨g, cap', hv', _, hg, _, _, hc, _⟩ := own_at h (by omega)
  rw [hv] at hv'
  injection hv' with e1 _ _
  subst e1
  exact ⟨g, 0, rfl, hg, fun k x hx => by rw [Nat.zero_add]; exact hc k _ (by rw [List.getElem?_map, hx]; rfl)⟩
end
end Go.Proofs.Ytlopcegpolpndaa
