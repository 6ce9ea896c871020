/- tree.Branches computes, edge by edge, how many people are reached from an edge's other end without it. -/
import Derived.Test.YtfkeplcalmlojaaW7
import Derived.Deep.RegionWith
namespace Go.Proofs.Ytfkeplcalmlojaa
open Go.RowKit TreeM

def flat (rs : List RE) : List Value := rs.flatMap fun r => [.int .i64 r.a, .int .i64 r.b, .int .i64 r.l]
theorem flat_len (rs : List RE) : (flat rs).length = rs.length * 3 := by
  induction rs with
  | nil => rfl
  | cons r rs ih => simp [flat] at ih ⊢; omega
theorem flat_one (rs : List RE) : ∀ u ∈ flat rs, u.oneCell' = true := by
  intro u hu
  obtain ⟨r, _, h⟩ := List.mem_flatMap.1 hu
  simp at h
  rcases h with rfl | rfl | rfl <;> rfl
theorem flat_append (a b : List RE) : flat (a ++ b) = flat a ++ flat b := by simp [flat]
/-- what is read edge by edge is read cell by cell -/
theorem flat_read (C : Nat → Option Value) (rs : List RE) : ∀ (off : Nat), (∀ (k : Nat) (r : RE), rs[k]? = some r → C (off + k * 3) = some (.int .i64 r.a) ∧ C (off + k * 3 + 1) = some (.int .i64 r.b) ∧ C (off + k * 3 + 2) = some (.int .i64 r.l)) →
    ∀ (j : Nat) (u : Value), (flat rs)[j]? = some u → C (off + j) = some u := by
  induction rs with
  | nil => intro off _ j u h; simp [flat] at h
  | cons r rs ih =>
    intro off h j u hu
    obtain ⟨h0, h1, h2⟩ := h 0 r rfl
    simp at h0 h1 h2
    have hfl : flat (r :: rs) = [.int .i64 r.a, .int .i64 r.b, .int .i64 r.l] ++ flat rs := by simp [flat]
    rw [hfl] at hu
    match j with
    | 0 => simp at hu; subst hu; exact h0
    | 1 => simp at hu; subst hu; exact h1
    | 2 => simp at hu; subst hu; exact h2
    | j + 3 =>
      rw [List.getElem?_append_right (by simp)] at hu
      have := ih (off + 3) (fun k x hx => by
        have := h (k + 1) x (by simpa using hx)
        rw [show off + (k + 1) * 3 = off + 3 + k * 3 by omega] at this
        exact this) j u (by simpa using hu)
      rw [show off + (j + 3) = off + 3 + j by omega]; exact this
theorem flat_at (rs : List RE) (k : Nat) (r : RE) (h : rs[k]? = some r) : (flat rs)[k * 3]? = some (.int .i64 r.a) ∧ (flat rs)[k * 3 + 1]? = some (.int .i64 r.b) ∧ (flat rs)[k * 3 + 2]? = some (.int .i64 r.l) := by
  induction rs generalizing k with
  | nil => simp at h
  | cons x rs ih =>
    have hfl : flat (x :: rs) = .int .i64 x.a :: .int .i64 x.b :: .int .i64 x.l :: flat rs := by simp [flat]
    rw [hfl]
    match k with
    | 0 => simp at h; subst h; simp
    | k + 1 =>
      have := ih k (by simpa using h)
      rw [show (k + 1) * 3 = k * 3 + 1 + 1 + 1 by omega]
      simp only [List.getElem?_cons_succ]
      exact this
theorem add_pl (b off k : Nat) : (⟨b, off, none⟩ : Addr).add k = ⟨b, off + k, none⟩ := by
  unfold Addr.add
  split
  · rename_i h; subst h; rfl
  · rfl
theorem own_raw {w : World} {base : Nat} {v : Value} {n : Nat} {rs : List RE} (hn : rs.length = n) (h : w.ownsRow base 31 3 v n (flat rs)) : ∃ A cap, v = .slice A n cap ∧ RawAt w A rs ∧ n ≤ cap := by
  rcases h.2 with ⟨rfl, rfl⟩ | ⟨g, cap, cur, rfl, _, hh, hnc, _, hsz, hc⟩
  · exact ⟨none, 0, rfl, fun k hk => absurd hk (by omega), Nat.le_refl _⟩
  · refine ⟨_, cap, rfl, fun k hk => ⟨g, 0, rfl, ?_, fun k r hr => ?_⟩, hnc⟩
    · rcases Nat.lt_or_ge g w.heap.size with h1 | h1
      · exact h1
      · rw [Array.getElem?_eq_none h1] at hh; cases hh
    · have hk := (List.getElem?_eq_some_iff.1 hr).1
      obtain ⟨h0, h1, h2⟩ := flat_at rs k r hr
      have key : ∀ j u, (flat rs)[j]? = some u → w.cell? ⟨g, j, none⟩ = some u := fun j u hu => by
        have hj := (List.getElem?_eq_some_iff.1 hu).1
        rw [← hc, List.getElem?_take] at hu
        split at hu
        · simp [World.cell?, hh]; simpa using hu
        · cases hu
      exact ⟨by rw [Nat.zero_add]; exact key _ _ h0, by rw [Nat.zero_add]; exact key _ _ h1, by rw [Nat.zero_add]; exact key _ _ h2⟩

/-- the list without the k-th -/
def dropR (rs : List RE) (k : Nat) : List RE := rs.take k ++ rs.drop (k + 1)
theorem dropR_ed (rs : List RE) (k : Nat) : (dropR rs k).map RE.ed = drop1 (rs.map RE.ed) k := by simp [dropR, drop1, List.map_take, List.map_drop]
theorem dropR_ok {rs : List RE} {n : Nat} (h : ∀ r ∈ rs, r.ok n) (k : Nat) : ∀ r ∈ dropR rs k, r.ok n := fun r hr => by
  rcases List.mem_append.1 hr with hr | hr
  · exact h r (List.mem_of_mem_take hr)
  · exact h r (List.mem_of_mem_drop hr)

theorem dropR_len {rs : List RE} {k : Nat} (h : k < rs.length) : (dropR rs k).length + 1 = rs.length := by simp [dropR]; omega
/-- how many people there are beyond the edge k -/
def beyTo (n : Nat) (es : List Ed) (ps : List Int) (k o j : Nat) : Int := sm j fun i => if 0 ≤ (frm n (drop1 es k) o).getD i 0 then ps.getD i 0 else 0
/-- the other end of r at v -/
def oth (r : RE) (v : Nat) : Nat := if r.a = v then r.b.toNat else r.a.toNat
def inc (r : RE) (v : Nat) : Prop := r.a = v ∨ r.b = v
instance (r : RE) (v : Nat) : Decidable (inc r v) := by unfold inc; infer_instance
/-- the branches by the first k edges -/
def brTo (n : Nat) (rs : List RE) (ps : List Int) (v : Nat) : Nat → List Int
  | 0 => []
  | k + 1 => match rs[k]? with
    | some r => if inc r v then brTo n rs ps v k ++ [beyTo n (rs.map RE.ed) ps k (oth r v) n] else brTo n rs ps v k
    | none => brTo n rs ps v k
theorem brTo_len (n : Nat) (rs : List RE) (ps : List Int) (v k : Nat) : (brTo n rs ps v k).length ≤ k := by
  induction k with
  | zero => simp [brTo]
  | succ k ih =>
    rw [brTo]
    split
    · split
      · simp; omega
      · omega
    · omega
def BrPost (l : List Int) (w : World) (e : Ending) (w' : World) : Prop :=
  w.Since w.heap.size w' ∧ ∃ v, e = .returned (.tuple #[v, .nilIface]) ∧ w'.ownsRow w.heap.size 3 1 v l.length (l.map (Value.int .i64))

theorem cat_src (rs : List RE) (k : Nat) (a1 a2 : Addr) (m1 c1 m2 c2 : Nat) : cat [⟨a1, m1, c1, flat (rs.take k)⟩, ⟨a2, m2, c2, flat (rs.drop (k + 1))⟩] = flat (dropR rs k) := by
  simp [cat, dropR, flat]
theorem bey_bd {n : Nat} {es : List Ed} {ps : List Int} (hp : ∀ p ∈ ps, 0 ≤ p ∧ p ≤ 10000) (k o : Nat) : ∀ j, 0 ≤ beyTo n es ps k o j ∧ beyTo n es ps k o j ≤ 10000 * (j : Int) := by
  intro j
  induction j with
  | zero => simp [beyTo, sm]
  | succ j ih =>
    have h3 : 0 ≤ ps.getD j 0 ∧ ps.getD j 0 ≤ 10000 := by
      rw [List.getD_eq_getElem?_getD]
      cases h : ps[j]? with
      | none => simp
      | some p => exact hp p (List.mem_of_getElem? h)
    unfold beyTo at ih ⊢
    rw [sm]
    split <;> omega
theorem own_keep {w w' : World} {base : Nat} {e : TypeId} {size n : Nat} {v : Value} {xs : List Value} (h : w.ownsRow base e size v n xs) (hs : w.Since w.heap.size w') : w'.ownsRow base e size v n xs := by
  obtain ⟨h1, h2⟩ := h
  refine ⟨h1, ?_⟩
  rcases h2 with h2 | ⟨g, cap, cur, hv, hg, hh, r⟩
  · exact .inl h2
  · refine .inr ⟨g, cap, cur, hv, hg, ?_, r⟩
    rw [hs.block g (by
      rcases Nat.lt_or_ge g w.heap.size with h1 | h1
      · exact h1
      · rw [Array.getElem?_eq_none h1] at hh; cases hh)]
    exact hh
theorem one_new (w : World) (u : Value) (t : TypeId) : ∀ (j : Nat) (x : Value), [u][j]? = some x → (w.alloc (.cells #[u] t)).cell? ((⟨w.heap.size, 0, none⟩ : Addr).add j) = some x := by
  intro j x hx
  match j with
  | 0 => simp at hx; subst hx; rw [add_pl, Nat.zero_add, World.cell?_alloc_at _ _ _ _ rfl]; rfl
  | j + 1 => simp at hx
/-- the rest of the edges, as Concat hands it back -/
def RestPost (wr : World) (E : Array Value) (rs' : List RE) (e : Ending) (w' : World) : Prop := wr.Since wr.heap.size w' ∧ w'.rowIs wr.heap.size 31 E.size (fun i => E.getD i undef) ∧ ∃ A cap, e = .returned (.slice A rs'.length cap) ∧ RawAt w' A rs'
theorem cat_call {w wr : World} {b off cap k : Nat} {rs : List RE} (hs : w.Since w.heap.size wr) (hb : b < w.heap.size) (hk : k < rs.length) (hlen : rs.length ≤ 100)
    (hc : ∀ (k : Nat) (r : RE), rs[k]? = some r → w.cell? ⟨b, off + k * 3, none⟩ = some (.int .i64 r.a) ∧ w.cell? ⟨b, off + k * 3 + 1, none⟩ = some (.int .i64 r.b) ∧ w.cell? ⟨b, off + k * 3 + 2, none⟩ = some (.int .i64 r.l))
    (E : Array Value) (o2 : Nat) (ho2 : k + 1 < rs.length → o2 = off + (k + 1) * 3) (m : Nat) (hm : m = rs.length - (k + 1)) (c2 : Nat) :
    Calls Try.prog 17 #[.slice (some ⟨wr.heap.size + 1, 0, none⟩) 2 2] (((wr.alloc (.cells E 31)).alloc (.cells #[.slice (some ⟨b, off, none⟩) k cap, .slice (some ⟨b, o2, none⟩) m c2] 22)).drew) (RestPost wr E (dropR rs k)) := by
  subst hm
  have hbr : b < wr.heap.size := Nat.lt_of_lt_of_le hb hs.size
  have hread : ∀ j u, (flat rs)[j]? = some u → w.cell? ⟨b, off + j, none⟩ = some u := fun j u hu => flat_read (fun j => w.cell? ⟨b, j, none⟩) rs off hc j u hu
  have hsz : wr.Since wr.heap.size (((wr.alloc (.cells E 31)).alloc (.cells #[.slice (some ⟨b, off, none⟩) k cap, .slice (some ⟨b, o2, none⟩) (rs.length - (k + 1)) c2] 22)).drew) :=
    (((World.Since.refl _ _).alloc (Nat.le_refl _) _).alloc (by simp) _).drew
  have hS : w.Since w.heap.size (((wr.alloc (.cells E 31)).alloc (.cells #[.slice (some ⟨b, off, none⟩) k cap, .slice (some ⟨b, o2, none⟩) (rs.length - (k + 1)) c2] 22)).drew) := since_join hs hsz
  have hE := ((row_lit wr E 31).alloc (.cells #[.slice (some ⟨b, off, none⟩) k cap, .slice (some ⟨b, o2, none⟩) (rs.length - (k + 1)) c2] 22)).drew
  have hrow := (row_lit (wr.alloc (.cells E 31)) #[.slice (some ⟨b, off, none⟩) k cap, .slice (some ⟨b, o2, none⟩) (rs.length - (k + 1)) c2] 22).drew
  rw [World.size_alloc] at hrow
  generalize (((wr.alloc (.cells E 31)).alloc (.cells #[.slice (some ⟨b, off, none⟩) k cap, .slice (some ⟨b, o2, none⟩) (rs.length - (k + 1)) c2] 22)).drew) = W at hsz hS hrow hE ⊢
  have hbW : b < W.heap.size := Nat.lt_of_lt_of_le hb hS.size
  have hft : flat rs = flat (rs.take (k + 1)) ++ flat (rs.drop (k + 1)) := by rw [← flat_append, List.take_append_drop]
  have hft0 : flat rs = flat (rs.take k) ++ flat (rs.drop k) := by rw [← flat_append, List.take_append_drop]
  refine (Concat_any (wr.heap.size + 1) [⟨⟨b, off, none⟩, k, cap, flat (rs.take k)⟩, ⟨⟨b, o2, none⟩, rs.length - (k + 1), c2, flat (rs.drop (k + 1))⟩] W (by simp) (hrow.congr (fun i hi => ?_)) (fun s hs => ?_) (by simp [tot]; omega)).mono ?_
  · match i, hi with
    | 0, _ => rfl
    | 1, _ => rfl
  · simp at hs
    rcases hs with rfl | rfl
    · refine ⟨hbW, by show (flat (rs.take k)).length = k * 3; rw [flat_len, List.length_take]; omega, fun j u hu => ?_, flat_one _⟩
      rw [add_pl, hS.cell (show b < w.heap.size from hb)]
      refine hread j u ?_
      rw [hft0, List.getElem?_append_left (List.getElem?_eq_some_iff.1 hu).1]; exact hu
    · refine ⟨hbW, by rw [flat_len, List.length_drop], fun j u hu => ?_, flat_one _⟩
      have hj := (List.getElem?_eq_some_iff.1 hu).1
      rw [flat_len, List.length_drop] at hj
      rw [add_pl, hS.cell (show b < w.heap.size from hb), ho2 (by omega)]
      have := hread ((k + 1) * 3 + j) u (by
        rw [hft, List.getElem?_append_right (by rw [flat_len, List.length_take]; omega), flat_len, List.length_take]
        rw [show (k + 1) * 3 + j - min (k + 1) rs.length * 3 = j by omega]; exact hu)
      rw [show off + (k + 1) * 3 + j = off + ((k + 1) * 3 + j) by omega]
      exact this
  · rintro e w' ⟨v, rfl, hown, hs'⟩
    rw [cat_src] at hown
    have hl : (dropR rs k).length = tot [⟨⟨b, off, none⟩, k, cap, flat (rs.take k)⟩, ⟨⟨b, o2, none⟩, rs.length - (k + 1), c2, flat (rs.drop (k + 1))⟩] := by
      simp [dropR, tot]; omega
    rw [← hl] at hown
    obtain ⟨A, c, rfl, hr, _⟩ := own_raw rfl hown
    exact ⟨since_join hsz hs', hE.of_block (hs'.block _ hE.lt), A, c, rfl, hr⟩

set_option maxHeartbeats 4000000 in
set_option maxRecDepth 100000 in
theorem Branches_ok {n : Nat} {A C : Option Addr} {cap cap2 : Nat} {rs : List RE} {ps : List Int} {w : World} (h : RawAt w A rs) (hcap : rs.length ≤ cap) (hcm : cap ≤ maxLen) (hlen : rs.length ≤ 100) (hp : IntsAt w C ps) (t : WOk n rs ps) (v : Nat) (hv : v < n) :
    Calls Try.prog 11 #[.int .i64 n, .slice A rs.length cap, .slice C ps.length cap2, .int .i64 v] w (BrPost (brTo n rs ps v rs.length) w) := by
  have hn2 : n ≤ 60 := by have := t.tree.hi; omega
  have hpl : ps.length = n := by have := t.len; omega
  have Hpl := Lib.hid hpl
  have hvz : (v : Int) < (n : Int) := by omega
  have hpl2 : ps.length ≤ 60 := by omega
  clear hpl
  unfold maxLen at hcm
  obtain ⟨i0, hi0, hz0, hz1, hz2⟩ := info_parts info3
  have Hi0 := Lib.hid hi0
  have Hz0 := Lib.hid hz0
  have Hz1 := Lib.hid hz1
  have Hz2 := Lib.hid hz2
  clear hi0 hz0 hz1 hz2
  have d1 : decide ((v : Int) < 0) = false := by simp
  have d2 : decide (n ≤ v) = false := by simp; omega
  go_enter Try.func11, Try.ntmps11
  go_wp2_with fail
  refine (weights_ok h (by omega) hp (by omega) t).mono ?_
  rintro e w0 ⟨rfl, hs0⟩
  go_wp2
  clear d1 d2
  go_loopg [11, 35] rs.length (fun g o i wr => ∃ k : Nat, k ≤ rs.length ∧ g = rs.length - k ∧ i = .int .i64 k ∧ w.Since w.heap.size wr ∧ wr.ownsRow w.heap.size 3 1 o (brTo n rs ps v k).length ((brTo n rs ps v k).map (Value.int .i64)))
  case atStart => exact ⟨0, Nat.zero_le _, rfl, rfl, hs0, ⟨by simp [brTo], .inl ⟨rfl, rfl⟩⟩⟩
  case round =>
    clear hs0
    obtain ⟨k, hk, rfl, rfl, hs, hown⟩ := hrel
    by_cases hkl : k < rs.length
    · have hkz : (k : Int) < (rs.length : Int) := by omega
      obtain ⟨b, off, rfl, hb, hc⟩ := h k hkl
      obtain ⟨⟨x, y, l⟩, he⟩ : ∃ e, rs[k]? = some e := ⟨rs[k], List.getElem?_eq_getElem hkl⟩
      obtain ⟨h0, h1, h2⟩ := hc k _ he
      obtain ⟨o1, o2, o3, o4, o5, o6⟩ := t.tree.ok _ (List.mem_of_getElem? he)
      have He := Lib.hid he
      simp only at h0 h1 h2 o1 o2 o3 o4 o5 o6
      rw [← hs.cell hb] at h0 h1 h2
      by_cases hin : inc ⟨x, y, l⟩ v
      · have Hbr : Hid (brTo n rs ps v (k + 1) = brTo n rs ps v k ++ [beyTo n (rs.map RE.ed) ps k (oth ⟨x, y, l⟩ v) n]) := Lib.hid (by rw [brTo, he]; simp only [hin, if_true])
        clear he
        have hok := dropR_ok t.tree.ok k
        obtain ⟨x', rfl⟩ := Int.eq_ofNat_of_zero_le o1
        obtain ⟨y', rfl⟩ := Int.eq_ofNat_of_zero_le o3
        have hcase : ∃ o : Nat, (x' : Int) + y' - v = o ∧ oth ⟨x', y', l⟩ v = o ∧ o < n ∧ ((((x' : Int) != (v : Int)) = false) ∨ (((x' : Int) != (v : Int)) = true ∧ ((y' : Int) != (v : Int)) = false)) := by
          unfold inc at hin
          simp only at hin
          by_cases e : x' = v
          · subst e
            exact ⟨y', by omega, by simp [oth], by omega, .inl (by simp)⟩
          · have e2 : y' = v := by omega
            subst e2
            exact ⟨x', by omega, by unfold oth; rw [if_neg (by simp only; omega)]; simp, by omega, .inr ⟨by rw [bne_iff_ne]; omega, by simp⟩⟩
        obtain ⟨o, eo, ho, hon, hcase⟩ := hcase
        have Eo := Lib.hid eo
        have Ho := Lib.hid ho
        have Hown := Lib.hid hown
        clear hin hown eo ho
        by_cases hck : cap = k + 1
        · subst hck
          have C2 := Lib.hid (cat_call (cap := k + 1) hs hb hkl hlen hc #[.int .i64 x', .int .i64 y', .int .i64 l] (off) (fun h => by omega) (0) (by omega) (0))
          clear hc
          rcases hcase with n1 | ⟨n1, n2⟩
          · go_wp2
            have hk0 : k ≤ k + 1 := by omega
            have hk1 : (k : Int) + 1 ≤ (rs.length : Int) := by omega
            have hk2 : (0 : Int) ≤ (k : Int) + 1 := by omega
            have hk3 : (k : Int) ≤ (k : Int) + 1 := by omega
            have hw1 : IntKind.i64.wrap ((k : Int) + 1) = (k : Int) + 1 := IntWalk.i64_in _ (by omega)
            have ht1 : ((k : Int) + 1).toNat = k + 1 := by omega
            go_region_with (go_at_call 17; refine C2.out.mono ?_; rintro e w5 ⟨hs5, hE, A', cap', rfl, hraw⟩)
            clear hk1 hk2 hk3 hw1 ht1
            have e0 : w5.cell? ⟨wr.heap.size, 0, none⟩ = some (.int .i64 x') := hE.cell (i := 0) (by simp)
            have e1 : w5.cell? ⟨wr.heap.size, 1, none⟩ = some (.int .i64 y') := hE.cell (i := 1) (by simp)
            have hsW := since_join hs hs5
            have hown5 := own_keep Hown.out hs5
            have c3 := from_any n A' cap' ((dropR rs k).map RE.ed) o w5 (hraw.eds hok) (by rw [List.length_map]; have := dropR_len hkl; omega) hn2 hon (good_of hok) (max_of hok)
            rw [List.length_map, dropR_ed] at c3
            have C3 := Lib.hid c3
            have hszr := hE.lt
            clear c3 hE hraw
            go_wp2_with fail
            rw [Eo.out]
            refine C3.out.mono ?_
            rintro e w6 ⟨rfl, hF⟩
            have hs6 := since_join hsW hF.since
            have hown6 := Lib.hid (own_keep hown5 hF.since)
            have hp6 := hp.since (Nat.le_refl _) hs6
            have hro := hF.row
            have hsz6 := hro.lt
            clear hs5 hsW hown5 e0 e1 hszr hF
            generalize w5.heap.size = B5 at hro hsz6 ⊢
            go_wp2
            go_loopg [15, 70] n (fun g s i wz => ∃ (j : Nat) (sv : Int), j ≤ n ∧ g = n - j ∧ i = .int .i64 j ∧ s = .int .i64 sv ∧ w6 = wz ∧ 0 ≤ sv ∧ sv ≤ 600000 ∧ Hid (sv = beyTo n (rs.map RE.ed) ps k o j))
            case atStart => exact ⟨0, 0, Nat.zero_le _, rfl, rfl, rfl, rfl, Int.le_refl _, by omega, Lib.hid rfl⟩
            case round =>
              obtain ⟨j, sv, hj, rfl, rfl, rfl, rfl, hsv0, hsv1, hS⟩ := hrel
              by_cases hjn : j < n
              · have hjz : (j : Int) < (n : Int) := by omega
                have hpl := Hpl.out
                have hjz2 : (j : Int) < (ps.length : Int) := by omega
                clear hpl
                obtain ⟨bp, offp, rfl, hbp, hcp⟩ := hp6 j (by omega)
                obtain ⟨pv, hpk⟩ : ∃ p, ps[j]? = some p := ⟨ps[j], List.getElem?_eq_getElem (by omega)⟩
                have g0 := hro.cell hjn
                have g1 := hcp j pv hpk
                obtain ⟨pb0, pb1⟩ := t.ok _ (List.mem_of_getElem? hpk)
                have hb2 := bey_bd (n := n) (es := rs.map RE.ed) t.ok k o (j + 1)
                have hst : beyTo n (rs.map RE.ed) ps k o (j + 1) = sv + if 0 ≤ (frm n (drop1 (rs.map RE.ed) k) o).getD j 0 then pv else 0 := by
                  rw [hS.out]; show sm (j + 1) _ = _; rw [sm, List.getD_eq_getElem?_getD (l := ps), hpk]; rfl
                rw [hst] at hb2
                have Hst := Lib.hid hst
                clear hst hpk hcp
                generalize (frm n (drop1 (rs.map RE.ed) k) o).getD j 0 = d at g0 hb2 Hst
                by_cases hd : 0 ≤ d
                · rw [if_pos hd] at hb2
                  go_wp2
                  go_roundg (n - (j + 1))
                  case measure => go_light; omega
                  case rel =>
                    go_light
                    exact ⟨j + 1, sv + pv, by omega, rfl, by go_num, rfl, rfl, hb2.1, by omega, Lib.hid (by rw [Hst.out, if_pos hd])⟩
                · go_wp2
                  go_roundg (n - (j + 1))
                  case measure => go_light; omega
                  case rel =>
                    go_light
                    exact ⟨j + 1, sv, by omega, rfl, by go_num, rfl, rfl, hsv0, hsv1, Lib.hid (by rw [Hst.out, if_neg (by omega)]; omega)⟩
              · obtain rfl : n = j := by omega
                have hB6 := hs6.size
                have hbl := brTo_len n rs ps v k
                have hown7 := hown6.out.alloc (.cells #[.int .i64 sv] 3)
                have hs7 := hs6.alloc hs6.size (.cells #[.int .i64 sv] 3)
                go_wp2_with (at_builtin; refine wpList_append_own _ rfl _ _ 32 rfl w.heap.size 3 i0 (.int .i64 0) 1 8 Try.underlying32 Hi0.out Hz0.out Hz1.out Hz2.out rfl (by decide) _ _ _ rfl hown7 ⟨w6.heap.size, 0, none⟩ 1 1 [.int .i64 sv] rfl rfl (one_new _ _ _) (by intro u hu; simp at hu; subst hu; rfl) (by unfold maxLen; omega) (by omega) hs7.size ?_; intro v8 w8 hown8 hg8 _)
                have hs8 : w.Since w.heap.size w8 := own_since hs7 hown7 hg8 hs7.size
                clear hown7 hs7
                go_wp2
                go_roundg (rs.length - (k + 1))
                case measure => go_light; omega
                case rel =>
                  go_light
                  refine ⟨k + 1, by omega, rfl, by go_num, hs8, ?_⟩
                  rw [Hbr.out, Ho.out, ← hS.out]
                  simpa using hown8
          · go_wp2
            have hk0 : k ≤ k + 1 := by omega
            have hk1 : (k : Int) + 1 ≤ (rs.length : Int) := by omega
            have hk2 : (0 : Int) ≤ (k : Int) + 1 := by omega
            have hk3 : (k : Int) ≤ (k : Int) + 1 := by omega
            have hw1 : IntKind.i64.wrap ((k : Int) + 1) = (k : Int) + 1 := IntWalk.i64_in _ (by omega)
            have ht1 : ((k : Int) + 1).toNat = k + 1 := by omega
            go_region_with (go_at_call 17; refine C2.out.mono ?_; rintro e w5 ⟨hs5, hE, A', cap', rfl, hraw⟩)
            clear hk1 hk2 hk3 hw1 ht1
            have e0 : w5.cell? ⟨wr.heap.size, 0, none⟩ = some (.int .i64 x') := hE.cell (i := 0) (by simp)
            have e1 : w5.cell? ⟨wr.heap.size, 1, none⟩ = some (.int .i64 y') := hE.cell (i := 1) (by simp)
            have hsW := since_join hs hs5
            have hown5 := own_keep Hown.out hs5
            have c3 := from_any n A' cap' ((dropR rs k).map RE.ed) o w5 (hraw.eds hok) (by rw [List.length_map]; have := dropR_len hkl; omega) hn2 hon (good_of hok) (max_of hok)
            rw [List.length_map, dropR_ed] at c3
            have C3 := Lib.hid c3
            have hszr := hE.lt
            clear c3 hE hraw
            go_wp2_with fail
            rw [Eo.out]
            refine C3.out.mono ?_
            rintro e w6 ⟨rfl, hF⟩
            have hs6 := since_join hsW hF.since
            have hown6 := Lib.hid (own_keep hown5 hF.since)
            have hp6 := hp.since (Nat.le_refl _) hs6
            have hro := hF.row
            have hsz6 := hro.lt
            clear hs5 hsW hown5 e0 e1 hszr hF
            generalize w5.heap.size = B5 at hro hsz6 ⊢
            go_wp2
            go_loopg [15, 70] n (fun g s i wz => ∃ (j : Nat) (sv : Int), j ≤ n ∧ g = n - j ∧ i = .int .i64 j ∧ s = .int .i64 sv ∧ w6 = wz ∧ 0 ≤ sv ∧ sv ≤ 600000 ∧ Hid (sv = beyTo n (rs.map RE.ed) ps k o j))
            case atStart => exact ⟨0, 0, Nat.zero_le _, rfl, rfl, rfl, rfl, Int.le_refl _, by omega, Lib.hid rfl⟩
            case round =>
              obtain ⟨j, sv, hj, rfl, rfl, rfl, rfl, hsv0, hsv1, hS⟩ := hrel
              by_cases hjn : j < n
              · have hjz : (j : Int) < (n : Int) := by omega
                have hpl := Hpl.out
                have hjz2 : (j : Int) < (ps.length : Int) := by omega
                clear hpl
                obtain ⟨bp, offp, rfl, hbp, hcp⟩ := hp6 j (by omega)
                obtain ⟨pv, hpk⟩ : ∃ p, ps[j]? = some p := ⟨ps[j], List.getElem?_eq_getElem (by omega)⟩
                have g0 := hro.cell hjn
                have g1 := hcp j pv hpk
                obtain ⟨pb0, pb1⟩ := t.ok _ (List.mem_of_getElem? hpk)
                have hb2 := bey_bd (n := n) (es := rs.map RE.ed) t.ok k o (j + 1)
                have hst : beyTo n (rs.map RE.ed) ps k o (j + 1) = sv + if 0 ≤ (frm n (drop1 (rs.map RE.ed) k) o).getD j 0 then pv else 0 := by
                  rw [hS.out]; show sm (j + 1) _ = _; rw [sm, List.getD_eq_getElem?_getD (l := ps), hpk]; rfl
                rw [hst] at hb2
                have Hst := Lib.hid hst
                clear hst hpk hcp
                generalize (frm n (drop1 (rs.map RE.ed) k) o).getD j 0 = d at g0 hb2 Hst
                by_cases hd : 0 ≤ d
                · rw [if_pos hd] at hb2
                  go_wp2
                  go_roundg (n - (j + 1))
                  case measure => go_light; omega
                  case rel =>
                    go_light
                    exact ⟨j + 1, sv + pv, by omega, rfl, by go_num, rfl, rfl, hb2.1, by omega, Lib.hid (by rw [Hst.out, if_pos hd])⟩
                · go_wp2
                  go_roundg (n - (j + 1))
                  case measure => go_light; omega
                  case rel =>
                    go_light
                    exact ⟨j + 1, sv, by omega, rfl, by go_num, rfl, rfl, hsv0, hsv1, Lib.hid (by rw [Hst.out, if_neg (by omega)]; omega)⟩
              · obtain rfl : n = j := by omega
                have hB6 := hs6.size
                have hbl := brTo_len n rs ps v k
                have hown7 := hown6.out.alloc (.cells #[.int .i64 sv] 3)
                have hs7 := hs6.alloc hs6.size (.cells #[.int .i64 sv] 3)
                go_wp2_with (at_builtin; refine wpList_append_own _ rfl _ _ 32 rfl w.heap.size 3 i0 (.int .i64 0) 1 8 Try.underlying32 Hi0.out Hz0.out Hz1.out Hz2.out rfl (by decide) _ _ _ rfl hown7 ⟨w6.heap.size, 0, none⟩ 1 1 [.int .i64 sv] rfl rfl (one_new _ _ _) (by intro u hu; simp at hu; subst hu; rfl) (by unfold maxLen; omega) (by omega) hs7.size ?_; intro v8 w8 hown8 hg8 _)
                have hs8 : w.Since w.heap.size w8 := own_since hs7 hown7 hg8 hs7.size
                clear hown7 hs7
                go_wp2
                go_roundg (rs.length - (k + 1))
                case measure => go_light; omega
                case rel =>
                  go_light
                  refine ⟨k + 1, by omega, rfl, by go_num, hs8, ?_⟩
                  rw [Hbr.out, Ho.out, ← hS.out]
                  simpa using hown8
        · have hck2 : k + 1 < cap := by omega
          have C2 := Lib.hid (cat_call (cap := cap) hs hb hkl hlen hc #[.int .i64 x', .int .i64 y', .int .i64 l] (off + (k + 1) * 3) (fun _ => rfl) (rs.length - (k + 1)) (by omega) (cap - (k + 1)))
          clear hc
          rcases hcase with n1 | ⟨n1, n2⟩
          · go_wp2
            have hk0 : k ≤ cap := by omega
            have hk1 : (k : Int) + 1 ≤ (rs.length : Int) := by omega
            have hk2 : (0 : Int) ≤ (k : Int) + 1 := by omega
            have hk3 : (k : Int) ≤ (k : Int) + 1 := by omega
            have hw1 : IntKind.i64.wrap ((k : Int) + 1) = (k : Int) + 1 := IntWalk.i64_in _ (by omega)
            have ht1 : ((k : Int) + 1).toNat = k + 1 := by omega
            go_region_with (go_at_call 17; refine C2.out.mono ?_; rintro e w5 ⟨hs5, hE, A', cap', rfl, hraw⟩)
            clear hk1 hk2 hk3 hw1 ht1
            have e0 : w5.cell? ⟨wr.heap.size, 0, none⟩ = some (.int .i64 x') := hE.cell (i := 0) (by simp)
            have e1 : w5.cell? ⟨wr.heap.size, 1, none⟩ = some (.int .i64 y') := hE.cell (i := 1) (by simp)
            have hsW := since_join hs hs5
            have hown5 := own_keep Hown.out hs5
            have c3 := from_any n A' cap' ((dropR rs k).map RE.ed) o w5 (hraw.eds hok) (by rw [List.length_map]; have := dropR_len hkl; omega) hn2 hon (good_of hok) (max_of hok)
            rw [List.length_map, dropR_ed] at c3
            have C3 := Lib.hid c3
            have hszr := hE.lt
            clear c3 hE hraw
            go_wp2_with fail
            rw [Eo.out]
            refine C3.out.mono ?_
            rintro e w6 ⟨rfl, hF⟩
            have hs6 := since_join hsW hF.since
            have hown6 := Lib.hid (own_keep hown5 hF.since)
            have hp6 := hp.since (Nat.le_refl _) hs6
            have hro := hF.row
            have hsz6 := hro.lt
            clear hs5 hsW hown5 e0 e1 hszr hF
            generalize w5.heap.size = B5 at hro hsz6 ⊢
            go_wp2
            go_loopg [15, 70] n (fun g s i wz => ∃ (j : Nat) (sv : Int), j ≤ n ∧ g = n - j ∧ i = .int .i64 j ∧ s = .int .i64 sv ∧ w6 = wz ∧ 0 ≤ sv ∧ sv ≤ 600000 ∧ Hid (sv = beyTo n (rs.map RE.ed) ps k o j))
            case atStart => exact ⟨0, 0, Nat.zero_le _, rfl, rfl, rfl, rfl, Int.le_refl _, by omega, Lib.hid rfl⟩
            case round =>
              obtain ⟨j, sv, hj, rfl, rfl, rfl, rfl, hsv0, hsv1, hS⟩ := hrel
              by_cases hjn : j < n
              · have hjz : (j : Int) < (n : Int) := by omega
                have hpl := Hpl.out
                have hjz2 : (j : Int) < (ps.length : Int) := by omega
                clear hpl
                obtain ⟨bp, offp, rfl, hbp, hcp⟩ := hp6 j (by omega)
                obtain ⟨pv, hpk⟩ : ∃ p, ps[j]? = some p := ⟨ps[j], List.getElem?_eq_getElem (by omega)⟩
                have g0 := hro.cell hjn
                have g1 := hcp j pv hpk
                obtain ⟨pb0, pb1⟩ := t.ok _ (List.mem_of_getElem? hpk)
                have hb2 := bey_bd (n := n) (es := rs.map RE.ed) t.ok k o (j + 1)
                have hst : beyTo n (rs.map RE.ed) ps k o (j + 1) = sv + if 0 ≤ (frm n (drop1 (rs.map RE.ed) k) o).getD j 0 then pv else 0 := by
                  rw [hS.out]; show sm (j + 1) _ = _; rw [sm, List.getD_eq_getElem?_getD (l := ps), hpk]; rfl
                rw [hst] at hb2
                have Hst := Lib.hid hst
                clear hst hpk hcp
                generalize (frm n (drop1 (rs.map RE.ed) k) o).getD j 0 = d at g0 hb2 Hst
                by_cases hd : 0 ≤ d
                · rw [if_pos hd] at hb2
                  go_wp2
                  go_roundg (n - (j + 1))
                  case measure => go_light; omega
                  case rel =>
                    go_light
                    exact ⟨j + 1, sv + pv, by omega, rfl, by go_num, rfl, rfl, hb2.1, by omega, Lib.hid (by rw [Hst.out, if_pos hd])⟩
                · go_wp2
                  go_roundg (n - (j + 1))
                  case measure => go_light; omega
                  case rel =>
                    go_light
                    exact ⟨j + 1, sv, by omega, rfl, by go_num, rfl, rfl, hsv0, hsv1, Lib.hid (by rw [Hst.out, if_neg (by omega)]; omega)⟩
              · obtain rfl : n = j := by omega
                have hB6 := hs6.size
                have hbl := brTo_len n rs ps v k
                have hown7 := hown6.out.alloc (.cells #[.int .i64 sv] 3)
                have hs7 := hs6.alloc hs6.size (.cells #[.int .i64 sv] 3)
                go_wp2_with (at_builtin; refine wpList_append_own _ rfl _ _ 32 rfl w.heap.size 3 i0 (.int .i64 0) 1 8 Try.underlying32 Hi0.out Hz0.out Hz1.out Hz2.out rfl (by decide) _ _ _ rfl hown7 ⟨w6.heap.size, 0, none⟩ 1 1 [.int .i64 sv] rfl rfl (one_new _ _ _) (by intro u hu; simp at hu; subst hu; rfl) (by unfold maxLen; omega) (by omega) hs7.size ?_; intro v8 w8 hown8 hg8 _)
                have hs8 : w.Since w.heap.size w8 := own_since hs7 hown7 hg8 hs7.size
                clear hown7 hs7
                go_wp2
                go_roundg (rs.length - (k + 1))
                case measure => go_light; omega
                case rel =>
                  go_light
                  refine ⟨k + 1, by omega, rfl, by go_num, hs8, ?_⟩
                  rw [Hbr.out, Ho.out, ← hS.out]
                  simpa using hown8
          · go_wp2
            have hk0 : k ≤ cap := by omega
            have hk1 : (k : Int) + 1 ≤ (rs.length : Int) := by omega
            have hk2 : (0 : Int) ≤ (k : Int) + 1 := by omega
            have hk3 : (k : Int) ≤ (k : Int) + 1 := by omega
            have hw1 : IntKind.i64.wrap ((k : Int) + 1) = (k : Int) + 1 := IntWalk.i64_in _ (by omega)
            have ht1 : ((k : Int) + 1).toNat = k + 1 := by omega
            go_region_with (go_at_call 17; refine C2.out.mono ?_; rintro e w5 ⟨hs5, hE, A', cap', rfl, hraw⟩)
            clear hk1 hk2 hk3 hw1 ht1
            have e0 : w5.cell? ⟨wr.heap.size, 0, none⟩ = some (.int .i64 x') := hE.cell (i := 0) (by simp)
            have e1 : w5.cell? ⟨wr.heap.size, 1, none⟩ = some (.int .i64 y') := hE.cell (i := 1) (by simp)
            have hsW := since_join hs hs5
            have hown5 := own_keep Hown.out hs5
            have c3 := from_any n A' cap' ((dropR rs k).map RE.ed) o w5 (hraw.eds hok) (by rw [List.length_map]; have := dropR_len hkl; omega) hn2 hon (good_of hok) (max_of hok)
            rw [List.length_map, dropR_ed] at c3
            have C3 := Lib.hid c3
            have hszr := hE.lt
            clear c3 hE hraw
            go_wp2_with fail
            rw [Eo.out]
            refine C3.out.mono ?_
            rintro e w6 ⟨rfl, hF⟩
            have hs6 := since_join hsW hF.since
            have hown6 := Lib.hid (own_keep hown5 hF.since)
            have hp6 := hp.since (Nat.le_refl _) hs6
            have hro := hF.row
            have hsz6 := hro.lt
            clear hs5 hsW hown5 e0 e1 hszr hF
            generalize w5.heap.size = B5 at hro hsz6 ⊢
            go_wp2
            go_loopg [15, 70] n (fun g s i wz => ∃ (j : Nat) (sv : Int), j ≤ n ∧ g = n - j ∧ i = .int .i64 j ∧ s = .int .i64 sv ∧ w6 = wz ∧ 0 ≤ sv ∧ sv ≤ 600000 ∧ Hid (sv = beyTo n (rs.map RE.ed) ps k o j))
            case atStart => exact ⟨0, 0, Nat.zero_le _, rfl, rfl, rfl, rfl, Int.le_refl _, by omega, Lib.hid rfl⟩
            case round =>
              obtain ⟨j, sv, hj, rfl, rfl, rfl, rfl, hsv0, hsv1, hS⟩ := hrel
              by_cases hjn : j < n
              · have hjz : (j : Int) < (n : Int) := by omega
                have hpl := Hpl.out
                have hjz2 : (j : Int) < (ps.length : Int) := by omega
                clear hpl
                obtain ⟨bp, offp, rfl, hbp, hcp⟩ := hp6 j (by omega)
                obtain ⟨pv, hpk⟩ : ∃ p, ps[j]? = some p := ⟨ps[j], List.getElem?_eq_getElem (by omega)⟩
                have g0 := hro.cell hjn
                have g1 := hcp j pv hpk
                obtain ⟨pb0, pb1⟩ := t.ok _ (List.mem_of_getElem? hpk)
                have hb2 := bey_bd (n := n) (es := rs.map RE.ed) t.ok k o (j + 1)
                have hst : beyTo n (rs.map RE.ed) ps k o (j + 1) = sv + if 0 ≤ (frm n (drop1 (rs.map RE.ed) k) o).getD j 0 then pv else 0 := by
                  rw [hS.out]; show sm (j + 1) _ = _; rw [sm, List.getD_eq_getElem?_getD (l := ps), hpk]; rfl
                rw [hst] at hb2
                have Hst := Lib.hid hst
                clear hst hpk hcp
                generalize (frm n (drop1 (rs.map RE.ed) k) o).getD j 0 = d at g0 hb2 Hst
                by_cases hd : 0 ≤ d
                · rw [if_pos hd] at hb2
                  go_wp2
                  go_roundg (n - (j + 1))
                  case measure => go_light; omega
                  case rel =>
                    go_light
                    exact ⟨j + 1, sv + pv, by omega, rfl, by go_num, rfl, rfl, hb2.1, by omega, Lib.hid (by rw [Hst.out, if_pos hd])⟩
                · go_wp2
                  go_roundg (n - (j + 1))
                  case measure => go_light; omega
                  case rel =>
                    go_light
                    exact ⟨j + 1, sv, by omega, rfl, by go_num, rfl, rfl, hsv0, hsv1, Lib.hid (by rw [Hst.out, if_neg (by omega)]; omega)⟩
              · obtain rfl : n = j := by omega
                have hB6 := hs6.size
                have hbl := brTo_len n rs ps v k
                have hown7 := hown6.out.alloc (.cells #[.int .i64 sv] 3)
                have hs7 := hs6.alloc hs6.size (.cells #[.int .i64 sv] 3)
                go_wp2_with (at_builtin; refine wpList_append_own _ rfl _ _ 32 rfl w.heap.size 3 i0 (.int .i64 0) 1 8 Try.underlying32 Hi0.out Hz0.out Hz1.out Hz2.out rfl (by decide) _ _ _ rfl hown7 ⟨w6.heap.size, 0, none⟩ 1 1 [.int .i64 sv] rfl rfl (one_new _ _ _) (by intro u hu; simp at hu; subst hu; rfl) (by unfold maxLen; omega) (by omega) hs7.size ?_; intro v8 w8 hown8 hg8 _)
                have hs8 : w.Since w.heap.size w8 := own_since hs7 hown7 hg8 hs7.size
                clear hown7 hs7
                go_wp2
                go_roundg (rs.length - (k + 1))
                case measure => go_light; omega
                case rel =>
                  go_light
                  refine ⟨k + 1, by omega, rfl, by go_num, hs8, ?_⟩
                  rw [Hbr.out, Ho.out, ← hS.out]
                  simpa using hown8
      · have Hbr : Hid (brTo n rs ps v (k + 1) = brTo n rs ps v k) := Lib.hid (by rw [brTo, he]; simp only [hin, if_false])
        clear he
        unfold inc at hin
        simp only [not_or] at hin
        have n1 : (x != (v : Int)) = true := by rw [bne_iff_ne]; exact hin.1
        have n2 : (y != (v : Int)) = true := by rw [bne_iff_ne]; exact hin.2
        clear hin
        have hown1 := hown.alloc (.cells #[.int .i64 x, .int .i64 y, .int .i64 l] 31)
        go_wp2
        go_roundg (rs.length - (k + 1))
        case measure => go_light; omega
        case rel =>
          go_light
          exact ⟨k + 1, by omega, rfl, by go_num, hs.alloc hs.size _, by rw [Hbr.out]; exact hown1⟩
    · obtain rfl : rs.length = k := by omega
      go_wp2
      go_ret2
      exact ⟨hs, u11, rfl, hown⟩
end Go.Proofs.Ytfkeplcalmlojaa
