/- trip: the tours' memory beside the row of savings. -/
import Derived.Test.YtlopcegpolpndaaS10
import Derived.Test.YtlopcegpolpndaaW2
namespace Go.Proofs.Ytlopcegpolpndaa
open Go.RowKit TripM SavedM

section
variable {w wr w' : World} {b B m n : Nat} {tr : Nat → List Nat} {sv : Int → Option Value}
theorem TMem.base_le (h : TMem w wr b B m n tr sv) : w.heap.size ≤ B := Nat.le_trans h.low (Nat.le_of_lt h.bB)
/-- a row of other elements grows -/
theorem TMem.other {lv : Value} {k : Nat} {xs : List Value} (h : TMem w wr b B m n tr sv) (hl : wr.ownsRow B 55 3 lv k xs) (hg : wr.grownBy w' lv.ownBlock) : TMem w w' b B m n tr sv := by
  refine ⟨h.since.grown hg (Nat.le_trans h.base_le h.base) (fun k hk => Nat.le_trans h.base_le (hl.lt k hk).1), h.map.kept hg (fun e => ?_), h.low, h.bB, Nat.le_trans h.base hg.size, fun i v hv => ?_, h.keys, h.has, h.apart⟩
  · have h1 := (hl.lt b e.symm).1
    have h2 := h.bB
    omega
  · obtain ⟨h1, h2, h3, h4⟩ := h.row i v hv
    exact ⟨h1, h2, h3, own_block h4 (fun g hgg => hg.block g (h4.lt g hgg).2 (fun e => own_apart hl h4 (by decide) hgg e.symm))⟩
theorem TMem.alloc (h : TMem w wr b B m n tr sv) (o : Obj) : TMem w (wr.alloc o) b B m n tr sv := h.grown (World.grownBy_alloc wr o none) rfl
theorem TMem.drew (h : TMem w wr b B m n tr sv) : TMem w wr.drew b B m n tr sv := h.grown (row := none) ⟨rfl, rfl, rfl, Nat.le_refl _, fun _ _ _ => rfl⟩ rfl
/-- the row of savings stays where a tour grows, or the map turns -/
theorem sav_stays {lv : Value} {k : Nat} {xs : List Value} (h : TMem w wr b B m n tr sv) (hl : wr.ownsRow B 55 3 lv k xs) {row : Option Nat} (hg : wr.grownBy w' row) (hr : row = none ∨ row = some b ∨ ∃ (i : Nat) (v : Value), sv (i : Int) = some v ∧ row = v.ownBlock) : w'.ownsRow B 55 3 lv k xs := by
  refine own_block hl (fun g hgg => hg.block g (hl.lt g hgg).2 (fun e => ?_))
  rcases hr with rfl | rfl | ⟨i, v, hv, rfl⟩
  · cases e
  · injection e with e
    have h1 := (hl.lt g hgg).1
    have h2 := h.bB
    omega
  · exact own_apart (h.row i v hv).2.2.2 hl (by decide) hgg e.symm
end
/-- the first tours -/
def trI (i x : Nat) : List Nat := if 1 ≤ x ∧ x < i then [x] else []
theorem trI_next {i : Nat} (hi : 1 ≤ i) : (fun x => if x = i then [i] else trI i x) = trI (i + 1) := by
  funext x
  unfold trI
  by_cases h : x = i
  · subst h; rw [if_pos rfl, if_pos ⟨hi, by omega⟩]
  · rw [if_neg h]
    by_cases h2 : 1 ≤ x ∧ x < i
    · rw [if_pos h2, if_pos ⟨h2.1, by omega⟩]
    · rw [if_neg h2, if_neg (by omega)]
theorem trI_end {i n : Nat} (h1 : n ≤ i) (h2 : i ≤ n ∨ i ≤ 1) : trI i = SavedM.one n := by
  funext x
  unfold trI SavedM.one
  by_cases h : 1 ≤ x ∧ x < n
  · rw [if_pos ⟨h.1, by omega⟩, if_pos h]
  · rw [if_neg (by omega), if_neg h]
/-- what each saving is -/
def SavOk (m : List (List Int)) (s : Sav) : Prop := ∃ i k : Nat, s = (dOf m i 0 + dOf m 0 k - dOf m i k, (i : Int), (k : Int)) ∧ 1 ≤ i ∧ i < m.length ∧ 1 ≤ k ∧ k < m.length ∧ i ≠ k ∧ 0 < dOf m i 0 + dOf m 0 k - dOf m i k
theorem savV_new (w : World) (a b c : Int) : ∀ (j : Nat) (u : Value), (savV (a, b, c))[j]? = some u → (w.alloc (.cells #[.int .i64 a, .int .i64 b, .int .i64 c] 55)).cell? ((⟨w.heap.size, 0, none⟩ : Addr).add j) = some u := fun j u hu => by
  rw [show (⟨w.heap.size, 0, none⟩ : Addr).add j = ⟨w.heap.size, j, none⟩ by unfold Addr.add; split <;> simp_all, World.cell?_alloc_at _ _ _ _ rfl]
  match j with
  | 0 => simpa [savV] using hu
  | 1 => simpa [savV] using hu
  | 2 => simpa [savV] using hu
  | j + 3 => simp [savV] at hu
theorem infoSav : (Try.prog.info? 55).map (fun i => (i.zero, i.size, i.bytes)) = some (some (.agg #[.int .i64 0, .int .i64 0, .int .i64 0]), 3, 24) := by kernel_rfl
theorem infoTour : (Try.prog.info? 43).map (fun i => (i.zero, i.size, i.bytes)) = some (some (.slice none 0 0), 1, 24) := by kernel_rfl
theorem sv_mem {D : Nat → Nat → Int} {n : Nat} {wants : Nat → Int} {room : Int} {tr : Nat → List Nat} (h : Sv D n wants room tr) {i p : Nat} (hp : p ∈ tr i) : (1 ≤ p ∧ p < n) ∧ (tr i).count p = 1 := by
  have hi := h.head i (List.ne_nil_of_mem hp)
  have h1 := h.once p
  have h2 := isum_mem (f := fun i => ((tr i).count p : Int)) (fun _ _ => by simp) hi.2.1
  have h3 := List.count_pos_iff.2 hp
  split at h1
  · refine ⟨by assumption, ?_⟩
    skip
    omega
  · omega
theorem sv_len {D : Nat → Nat → Int} {n : Nat} {wants : Nat → Int} {room : Int} {tr : Nat → List Nat} (h : Sv D n wants room tr) (i : Nat) : (tr i).length ≤ n := by
  refine PermM.nodup_le n (tr i) (List.nodup_iff_count.2 (fun a => ?_)) (fun x hx => (sv_mem h hx).1.2)
  by_cases ha : a ∈ tr i
  · rw [(sv_mem h ha).2]; exact Nat.le_refl _
  · rw [List.count_eq_zero.2 ha]; omega
theorem since_down {w w' : World} {B B' : Nat} (h : w.Since B w') (hB : B' ≤ B) : w.Since B' w' := ⟨h.os, h.tape, h.output, h.size, fun k hk => h.block k (Nat.lt_of_lt_of_le hk hB)⟩
theorem natsV3_append (a b : List Nat) : natsV3 (a ++ b) = natsV3 a ++ natsV3 b := by simp [natsV3]
theorem last_of {l : List Nat} {q a : Nat} (h : l[q]? = some a) (hl : q + 1 = l.length) : l.getLastD 0 = a := by
  rw [List.getLastD_eq_getLast?, List.getLast?_eq_getElem?, ← hl, Nat.add_sub_cancel, h]; rfl
/-- the tours ahead of a place -/
def rowk (tr : Nat → List Nat) (i : Nat) : List (List Nat) := ((List.range' 1 (i - 1)).map tr).filter (fun t => decide (t ≠ []))
theorem rowk_next (tr : Nat → List Nat) {i : Nat} (hi : 1 ≤ i) : rowk tr (i + 1) = rowk tr i ++ (if tr i = [] then [] else [tr i]) := by
  unfold rowk
  rw [show i + 1 - 1 = (i - 1) + 1 by omega, List.range'_concat, List.map_append, List.filter_append, show 1 + 1 * (i - 1) = i by omega]
  congr 1
  by_cases h : tr i = []
  · simp [h]
  · simp [h]
theorem rowk_len (tr : Nat → List Nat) (i : Nat) : (rowk tr i).length ≤ i - 1 := by
  unfold rowk
  refine Nat.le_trans (List.length_filter_le _ _) ?_
  simp
/-- the slices of tours, one by one -/
def Outs (w : World) (vs : List Value) (ts : List (List Nat)) : Prop := vs.length = ts.length ∧ ∀ (j : Nat) (t : List Nat), ts[j]? = some t → ∃ g c, vs[j]? = some (.slice (some ⟨g, 0, none⟩) t.length c) ∧ g < w.heap.size ∧ IntsAt w (some ⟨g, 0, none⟩) (natsZ t)
theorem Outs.snoc {w : World} {vs : List Value} {ts : List (List Nat)} (h : Outs w vs ts) {t : List Nat} {g c : Nat} (hg : g < w.heap.size) (hI : IntsAt w (some ⟨g, 0, none⟩) (natsZ t)) : Outs w (vs ++ [.slice (some ⟨g, 0, none⟩) t.length c]) (ts ++ [t]) := by
  refine ⟨by simp [h.1], fun j u hu => ?_⟩
  by_cases hj : j < ts.length
  · rw [List.getElem?_append_left hj] at hu
    obtain ⟨g', c', h1, h2⟩ := h.2 j u hu
    exact ⟨g', c', by rw [List.getElem?_append_left (by rw [h.1]; exact hj)]; exact h1, h2⟩
  · have hl := (List.getElem?_eq_some_iff.1 hu).1
    simp at hl
    obtain rfl : j = ts.length := by omega
    simp at hu
    subst hu
    exact ⟨g, c, by rw [← h.1]; simp, hg, hI⟩
/-- as a slice of slices -/
theorem outs_map {w w' : World} {B : Nat} {ov : Value} {vs : List Value} {ts : List (List Nat)} (h : Outs w vs ts) (hs : w.Since w.heap.size w') (hr : w'.ownsRow B 43 1 ov vs.length vs) : ∃ A c, ov = .slice A ts.length c ∧ MapAt w' A (ts.map natsZ) := by
  obtain ⟨A, c, rfl, _, _⟩ := own_form hr
  refine ⟨A, c, by rw [h.1], fun k hk => ?_⟩
  simp at hk
  obtain ⟨g, c', e, _, hg, _, _, hc, _⟩ := own_at hr (by rw [h.1]; omega)
  injection e with e _ _
  subst e
  refine ⟨g, 0, rfl, hg, fun i r hr => ?_⟩
  rw [List.getElem?_map, Option.map_eq_some_iff] at hr
  obtain ⟨t, ht, rfl⟩ := hr
  obtain ⟨g2, c2, h1, h2, h3⟩ := h.2 i t ht
  exact ⟨some ⟨g2, 0, none⟩, c2, by rw [Nat.zero_add, natsZ_len]; exact hc i _ h1, h3.since (Nat.le_refl _) hs⟩
theorem since_gb {w w' : World} (h : w.Since w.heap.size w') : w.grownBy w' none := ⟨h.os, h.tape, h.output, h.size, fun k hk _ => h.block k hk⟩
end Go.Proofs.Ytlopcegpolpndaa
