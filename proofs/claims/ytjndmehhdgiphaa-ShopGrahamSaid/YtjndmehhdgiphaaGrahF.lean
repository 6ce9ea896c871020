/- shop: what List's and Longest's answers are worth. Plain. -/
import Derived.Test.YtjndmehhdgiphaaW16
namespace Go.Proofs.Ytjndmehhdgiphaa
open Go.RowKit HeapM GrahM McM PermM StabM

theorem sm_range (l : List Int) : ∀ k, k ≤ l.length → sm (pL l) (List.range k) = pre l k
  | 0, _ => by simp [sm, pre]
  | k + 1, h => by
    rw [List.range_succ, sm_append, sm_range l k (by omega), pre_succ (by omega)]
    show _ + (pL l k + 0) = _
    unfold pL; omega
theorem mostL_le {l : List Int} {C : Int} (hC : 0 ≤ C) (h : ∀ x ∈ l, x ≤ C) : mostL l ≤ C := by
  have : ∀ k, k ≤ l.length → mostL (l.take k) ≤ C := by
    intro k
    induction k with
    | zero => intro _; simpa [mostL] using hC
    | succ k ih =>
      intro hk
      have := ih (by omega)
      have hx : l[k]? = some l[k] := List.getElem?_eq_getElem (by omega)
      have := h _ (List.mem_of_getElem? hx)
      rw [mostL_snoc hx]
      omega
  have := this l.length (Nat.le_refl _)
  rw [List.take_length] at this
  exact this
theorem perm_of {n : Nat} {r : List Nat} (h : IsPerm n r) : r.Perm (List.range n) :=
  (List.perm_ext_iff_of_nodup h.nodup List.nodup_range).2 (fun x => by rw [List.mem_range]; exact ⟨h.lt x, h.all x⟩)
theorem pL_mem {l : List Int} {x : Nat} (hx : x < l.length) : pL l x ∈ l := by
  unfold pL
  rw [List.getD_eq_getElem?_getD, List.getElem?_eq_getElem hx]
  exact List.getElem_mem _
structure GF (l : List Int) (M : Nat) (E : Int) (ps : List Quad) : Prop where
  fits : FitsIn l M E ps
  few : ps.length ≤ 60000000000
  e0 : 0 ≤ E
  e1 : E ≤ 60000000000
  lo : endL l M ≤ E
  two : E * M ≤ endL l M * (2 * M - 1)
theorem endL_bd {l : List Int} {M : Nat} (t : LensOk l (M : Int)) : 0 ≤ endL l M ∧ endL l M ≤ 60000000020 := by
  have hpb := pre_bd (B := 1000000000) (by omega) t.ok l.length (Nat.le_refl _)
  have h1 := t.lo
  have h2 := t.hi
  have h3 := t.few
  have h4 : mostL l ≤ 1000000000 := mostL_le (by omega) (fun x hx => (t.ok x hx).2)
  have h5 := (mostL_ge l).1
  have hd : (pre l l.length + M - 1) / M ≤ 60000000020 := Int.le_trans (Int.ediv_le_self _ (by omega)) (by omega)
  unfold endL
  omega
theorem gl_le_sm {p mu : Nat → Int} (j : Int) : ∀ {a : List Nat}, (∀ x ∈ a, 0 ≤ p x) → gl p mu a j ≤ sm p a
  | [], _ => Int.le_refl _
  | x :: a, h => by
    have h1 := gl_le_sm (mu := mu) j (a := a) (fun y hy => h y (List.mem_cons_of_mem _ hy))
    have h2 := h x (List.mem_cons_self ..)
    show (if mu x = j then p x else 0) + gl p mu a j ≤ p x + sm p a
    split <;> omega
theorem graham_facts {l : List Int} {M : Nat} (t : LensOk l (M : Int)) {r : List Nat} (hp : IsPerm l.length r) {E : Int} {ps : List Quad} (h : ListRes l M r E ps) : GF l M E ps := by
  obtain ⟨mu, s, hl, h⟩ := h
  have hM : 1 ≤ M := by have := t.lo; omega
  have h0 : ∀ x ∈ r, 0 ≤ pL l x := fun x hx => (t.ok _ (pL_mem (hp.lt x hx))).1
  have hE0 := h.ls.nonneg h0
  have hsm : sm (pL l) r = pre l l.length := by rw [sm_perm (perm_of hp), sm_range l _ (Nat.le_refl _)]
  have hall := h.ls.all h0
  rw [hsm] at hall
  have hend := mc_end (m := (M : Int)) (most := mostL l) (all := pre l l.length) (E := endL l M) t.lo rfl
  obtain ⟨q1, q2, q3⟩ := hend
  have hbd := endL_bd t
  have htwo := h.ls.two h0 hM (C := endL l M) hbd.1 (fun x hx => Int.le_trans ((mostL_ge l).2 _ (pL_mem (hp.lt x hx))) q2) (by rw [hsm, Int.mul_comm]; exact q3)
  have hlo : endL l M ≤ E := by
    rcases q1 with e | e
    · rw [e]
      exact mostL_le hE0 (fun x hx => by
        obtain ⟨i, hi⟩ := List.getElem?_of_mem hx
        obtain ⟨hil, hie⟩ := List.getElem?_eq_some_iff.1 hi
        have := h.ls.each h0 i (hp.all i hil)
        unfold pL at this
        rw [List.getD_eq_getElem?_getD, hi] at this
        exact this)
    · have e2 : (endL l M - 1) * M < M * E := Int.lt_of_lt_of_le e hall
      rw [Int.mul_comm (M : Int) E] at e2
      have := Int.lt_of_mul_lt_mul_right e2 (by omega)
      omega
  have hfit := g_fits (l := l) (fun x _ => rfl) hp.nodup hp.lt (fun x hx => hp.all x hx) (fun x hx => (t.ok x hx).1) h
  refine ⟨⟨t.ok, hfit⟩, ?_, hE0, ?_, hlo, htwo⟩
  · rw [h.parts, List.length_map, hp.len]
    have := t.few
    omega
  · have hpb := pre_bd (B := 1000000000) (by omega) t.ok l.length (Nat.le_refl _)
    have hfew := t.few
    rcases h.ls.last with e | ⟨i, x, hx, e⟩
    · omega
    · obtain ⟨_, _, h3, _, _⟩ := h.ls.at_ i x hx
      have h4 := gl_le_sm (p := pL l) (mu := mu) (mu x) (a := r.take i) (fun y hy => h0 y (List.mem_of_mem_take hy))
      have h5 := sm_split h0 hx
      rw [hsm] at h5
      omega
theorem lpt_facts {l : List Int} {M : Nat} (t : LensOk l (M : Int)) {r r' : List Nat} (hp : IsPerm l.length r) (hp' : IsPerm l.length r') {E C : Int} {ps qs : List Quad} (h : ListRes l M r E ps) (h' : ListRes l M r' C qs)
    (hs : r.Pairwise (fun x y => pL l y ≤ pL l x)) : 3 * E * M ≤ C * (4 * M - 1) := by
  obtain ⟨mu, s, hl, h⟩ := h
  obtain ⟨mu', s', hl', h'⟩ := h'
  have hM : 1 ≤ M := by have := t.lo; omega
  have h0 : ∀ x ∈ r, 0 ≤ pL l x := fun x hx => (t.ok _ (pL_mem (hp.lt x hx))).1
  refine h.ls.lpt hp.nodup h0 hM (fun i k x y hik hx hy => ?_) ((perm_of hp').trans (perm_of hp).symm) h'.ls
  by_cases e : i = k
  · subst e
    rw [hx] at hy
    injection hy with hy
    subst hy
    exact Int.le_refl _
  · obtain ⟨a1, a2⟩ := List.getElem?_eq_some_iff.1 hx
    obtain ⟨b1, b2⟩ := List.getElem?_eq_some_iff.1 hy
    have := List.pairwise_iff_getElem.1 hs i k a1 b1 (by omega)
    rw [a2, b2] at this
    exact this
end Go.Proofs.Ytjndmehhdgiphaa
