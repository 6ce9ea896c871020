/- A plan by a list, step by step: the heap of the machines, the parts. Plain. -/
import Derived.Test.YtjndmehhdgiphaaGrahM
import Derived.Test.YtjndmehhdgiphaaMcM
namespace Go.Proofs.Ytjndmehhdgiphaa.GrahM
open McM

def quadOf (p mu s : Nat → Int) (x : Nat) : Quad := (mu x, (x : Int), s x, s x + p x)
def atF (p mu : Nat → Int) (r : List Nat) (j : Nat) : Int × Int := (gl p mu r j, (j : Int))
/-- behind the jobs r -/
structure GSt (p : Nat → Int) (M : Nat) (r : List Nat) (mu s : Nat → Int) (E : Int) (hl : List (Int × Int)) (ps : List Quad) : Prop where
  ls : Ls p M r mu s E
  heap : hl.Perm ((List.range M).map (atF p mu r))
  parts : ps = r.map (quadOf p mu s)
section
variable {p mu s : Nat → Int} {M : Nat} {r : List Nat} {E : Int} {hl : List (Int × Int)} {ps : List Quad}
theorem g_start (p : Nat → Int) (M : Nat) {hl : List (Int × Int)} (h : hl.Perm ((List.range M).map (fun j => ((0 : Int), ((j : Nat) : Int))))) : GSt p M [] (fun _ => 0) (fun _ => 0) 0 hl [] :=
  ⟨ls_start, h, rfl⟩
theorem GSt.hlen (h : GSt p M r mu s E hl ps) : hl.length = M := by rw [h.heap.length_eq]; simp
theorem GSt.mem (h : GSt p M r mu s E hl ps) {a : Int × Int} (ha : a ∈ hl) : 0 ≤ a.2 ∧ a.2 < M ∧ a.1 = gl p mu r a.2 := by
  have := h.heap.mem_iff.1 ha
  obtain ⟨j, hj, rfl⟩ := List.mem_map.1 this
  have := List.mem_range.1 hj
  exact ⟨by show (0 : Int) ≤ (j : Int); omega, by show (j : Int) < M; omega, rfl⟩
theorem g_next (h : GSt p M r mu s E hl ps) {x : Nat} (hx : x ∉ r) {t c : Int} {hl1 hl2 : List (Int × Int)} (h1 : hl.Perm ((t, c) :: hl1)) (hmin : ∀ a ∈ hl, t ≤ a.1) (h2 : hl2.Perm (hl1 ++ [(t + p x, c)])) :
    GSt p M (r ++ [x]) (fun y => if y = x then c else mu y) (fun y => if y = x then gl p mu r c else s y) (max E (t + p x)) hl2 (ps ++ [(c, (x : Int), t, t + p x)]) := by
  obtain ⟨c0, c1, ct⟩ := h.mem (h1.mem_iff.2 (List.mem_cons_self ..))
  simp only at c0 c1 ct
  subst ct
  have hls := ls_next (c := c) h.ls hx ⟨c0, c1⟩ (fun j hj0 hj1 => by
    have : atF p mu r j.toNat ∈ hl := h.heap.mem_iff.2 (List.mem_map.2 ⟨j.toNat, List.mem_range.2 (by omega), rfl⟩)
    have := hmin _ this
    unfold atF at this
    rw [Int.toNat_of_nonneg hj0] at this
    exact this)
  have hgl : ∀ j : Int, gl p (fun y => if y = x then c else mu y) (r ++ [x]) j = gl p mu r j + if c = j then p x else 0 := fun j => by
    rw [gl_append]
    have e1 : gl p (fun y => if y = x then c else mu y) r j = gl p mu r j := gl_congr j (fun y hy => by
      have : y ≠ x := fun e => hx (by rw [← e]; exact hy)
      simp [this])
    rw [e1]
    show _ + ((if (if x = x then c else mu x) = j then p x else 0) + 0) = _
    simp
  refine ⟨hls, ?_, ?_⟩
  · have hcr : c.toNat ∈ List.range M := List.mem_range.2 (by omega)
    have hcc : ((c.toNat : Nat) : Int) = c := Int.toNat_of_nonneg c0
    have hp0 := List.perm_cons_erase hcr
    have e1 : hl.Perm (atF p mu r c.toNat :: ((List.range M).erase c.toNat).map (atF p mu r)) := h.heap.trans (hp0.map _)
    have e2 : atF p mu r c.toNat = (gl p mu r c, c) := by unfold atF; rw [hcc]
    rw [e2] at e1
    have e3 : hl1.Perm (((List.range M).erase c.toNat).map (atF p mu r)) := (h1.symm.trans e1).cons_inv
    have e4 : ((List.range M).erase c.toNat).map (atF p mu r) = ((List.range M).erase c.toNat).map (atF p (fun y => if y = x then c else mu y) (r ++ [x])) := List.map_congr_left (fun j hj => by
      have hne : j ≠ c.toNat := ((List.nodup_range).mem_erase_iff.1 hj).1
      unfold atF
      rw [hgl, if_neg (by omega), Int.add_zero])
    have e5 : atF p (fun y => if y = x then c else mu y) (r ++ [x]) c.toNat = (gl p mu r c + p x, c) := by
      unfold atF
      rw [hcc, hgl, if_pos rfl]
    refine h2.trans ?_
    rw [e4] at e3
    refine List.Perm.trans ?_ (hp0.map _).symm
    rw [List.map_cons, e5]
    exact (e3.append_right _).trans (List.perm_append_singleton _ _)
  · rw [h.parts, List.map_append]
    congr 1
    · exact List.map_congr_left (fun y hy => by
        have : y ≠ x := fun e => hx (by rw [← e]; exact hy)
        unfold quadOf
        simp [this])
    · show [_] = [_]
      unfold quadOf
      simp
theorem pSum_map {j : Int} : ∀ (r : List Nat), r.Nodup → pSum (r.map (quadOf p mu s)) j = if ∃ x ∈ r, (x : Int) = j then p j.toNat else 0
  | [], _ => by simp [pSum]
  | x :: r, hn => by
    obtain ⟨h1, h2⟩ := List.nodup_cons.1 hn
    rw [List.map_cons]
    show (if job (quadOf p mu s x) = j then to' (quadOf p mu s x) - fr (quadOf p mu s x) else 0) + _ = _
    rw [pSum_map r h2]
    by_cases e : (x : Int) = j
    · have h3 : ¬ ∃ y ∈ r, (y : Int) = j := fun ⟨y, hy, hyj⟩ => h1 (by have : y = x := by omega
                                                                       rw [← this]; exact hy)
      rw [if_neg h3, if_pos (show job (quadOf p mu s x) = j from e), if_pos ⟨x, List.mem_cons_self .., e⟩, ← e, Int.toNat_natCast]
      show (s x + p x) - s x + 0 = _
      omega
    · rw [if_neg (show ¬ job (quadOf p mu s x) = j from e), Int.zero_add]
      by_cases h4 : ∃ y ∈ r, (y : Int) = j
      · obtain ⟨y, hy, hyj⟩ := h4
        rw [if_pos ⟨y, hy, hyj⟩, if_pos ⟨y, List.mem_cons_of_mem _ hy, hyj⟩]
      · rw [if_neg h4, if_neg (fun ⟨y, hy, hyj⟩ => by
          rcases List.mem_cons.1 hy with rfl | hy
          · exact e hyj
          · exact h4 ⟨y, hy, hyj⟩)]
/-- a machine's jobs follow each other -/
theorem gl_take_le (h0 : ∀ x ∈ r, 0 ≤ p x) (hls : Ls p M r mu s E) {i k x y : Nat} (hik : i < k) (hx : r[i]? = some x) (hy : r[k]? = some y) (he : mu x = mu y) : s x + p x ≤ s y := by
  obtain ⟨_, _, h1, _, _⟩ := hls.at_ i x hx
  obtain ⟨_, _, h2, _, _⟩ := hls.at_ k y hy
  have e : r.take k = r.take i ++ x :: (r.take k).drop (i + 1) := by
    have hxk : (r.take k)[i]? = some x := by rw [List.getElem?_take]; rw [if_pos hik]; exact hx
    have hil := (List.getElem?_eq_some_iff.1 hxk).1
    have hxe := (List.getElem?_eq_some_iff.1 hxk).2
    conv => lhs; rw [← List.take_append_drop i (r.take k)]
    rw [List.take_take, Nat.min_eq_left (by omega), List.drop_eq_getElem_cons hil, hxe]
  rw [h2, e, gl_append, ← he]
  have h3 : gl p mu (x :: (r.take k).drop (i + 1)) (mu x) = p x + gl p mu ((r.take k).drop (i + 1)) (mu x) := by
    show (if mu x = mu x then p x else 0) + _ = _
    rw [if_pos rfl]
  have h4 := gl_nonneg (W := p) (mu := mu) (mu x) (a := (r.take k).drop (i + 1)) (fun z hz => h0 z (List.mem_of_mem_take (List.mem_of_mem_drop hz)))
  rw [h3, h1]
  omega
theorem g_fits {l : List Int} (hp : ∀ x, x < l.length → p x = l.getD x 0) (hr : r.Nodup) (hlt : ∀ x ∈ r, x < l.length) (hall : ∀ x, x < l.length → x ∈ r) (h0 : ∀ x ∈ l, 0 ≤ x) (h : GSt p M r mu s E hl ps) : FitsOk l M E ps := by
  have hp0 : ∀ x ∈ r, 0 ≤ p x := fun x hx => by
    have := hlt x hx
    rw [hp x this, List.getD_eq_getElem?_getD, List.getElem?_eq_getElem this]
    exact h0 _ (List.getElem_mem _)
  refine ⟨fun q hq => ?_, ?_, fun j hj => ?_⟩
  · rw [h.parts] at hq
    obtain ⟨x, hx, rfl⟩ := List.mem_map.1 hq
    obtain ⟨i, hi⟩ := List.getElem?_of_mem hx
    obtain ⟨h1, h2, h3, _, h5⟩ := h.ls.at_ i x hi
    have h6 := gl_nonneg (W := p) (mu := mu) (mu x) (a := r.take i) (fun z hz => hp0 z (List.mem_of_mem_take hz))
    have h7 := hlt x hx
    have h8 := hp0 x hx
    exact ⟨h1, h2, by show (0 : Int) ≤ (x : Int); omega, by show (x : Int) < _; omega, by show 0 ≤ s x; omega, by show s x ≤ s x + p x; omega, h5⟩
  · rw [h.parts, List.pairwise_map, List.pairwise_iff_getElem]
    intro i k hi hk hik hcl
    obtain ⟨hc1, hc2, hc3⟩ := hcl
    have g1 : r[i]? = some r[i] := List.getElem?_eq_getElem hi
    have g2 : r[k]? = some r[k] := List.getElem?_eq_getElem hk
    rcases hc1 with he | he
    · have := gl_take_le hp0 h.ls hik g1 g2 he
      have e2 : fr (quadOf p mu s r[k]) = s r[k] := rfl
      have e3 : to' (quadOf p mu s r[i]) = s r[i] + p r[i] := rfl
      omega
    · have he' : ((r[i] : Nat) : Int) = (r[k] : Nat) := he
      have : r[i] = r[k] := by omega
      exact absurd this (List.pairwise_iff_getElem.1 (List.nodup_iff_pairwise_ne.1 hr) i k hi hk hik)
  · rw [h.parts, pSum_map r hr, if_pos ⟨j, hall j hj, rfl⟩, Int.toNat_natCast]
    exact hp j hj
end
end Go.Proofs.Ytjndmehhdgiphaa.GrahM
