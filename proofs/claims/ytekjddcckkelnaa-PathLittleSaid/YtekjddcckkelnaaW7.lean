/- path: pieces as a slice; may, Ends, Work. -/
import Derived.Test.YtekjddcckkelnaaW6
import Derived.Test.YtekjddcckkelnaaPathL
import Derived.RegionTactic
namespace Go.Proofs.Ytekjddcckkelnaa
open Go.RowKit PathM

def pz (p : Nat × Int × Int) : Job := ((p.1 : Int), p.2.1, p.2.2)
def PiecesAt (w : World) (A : Option Addr) (o : Pieces) : Prop := JobsAt w A (o.map pz)
theorem PiecesAt.since {w wr : World} {A : Option Addr} {o : Pieces} (h : PiecesAt w A o) {B : Nat} (hB : w.heap.size ≤ B) (hs : w.Since B wr) : PiecesAt wr A o := JobsAt.since h hB hs
theorem outV_at {o : Pieces} {k : Nat} {p : Nat × Int × Int} (h : o[k]? = some p) : (outV o)[k * 3]? = some (.int .i64 (p.1 : Nat)) ∧ (outV o)[k * 3 + 1]? = some (.int .i64 p.2.1) ∧ (outV o)[k * 3 + 2]? = some (.int .i64 p.2.2) := by
  induction o generalizing k with
  | nil => simp at h
  | cons q o ih =>
    have e : outV (q :: o) = pieceV q ++ outV o := by simp [outV]
    match k with
    | 0 =>
      simp at h; subst h
      rw [e]
      exact ⟨rfl, rfl, rfl⟩
    | k + 1 =>
      have hk : o[k]? = some p := by simpa using h
      have := ih hk
      rw [e]
      have el : (pieceV q).length = 3 := rfl
      rw [List.getElem?_append_right (by omega), List.getElem?_append_right (by omega), List.getElem?_append_right (by omega), el, show (k + 1) * 3 - 3 = k * 3 by omega, show (k + 1) * 3 + 1 - 3 = k * 3 + 1 by omega, show (k + 1) * 3 + 2 - 3 = k * 3 + 2 by omega]
      exact this
theorem own_pieces {w : World} {base : Nat} {v : Value} {o : Pieces} (h : w.ownsRow base 36 3 v o.length (outV o)) {A : Option Addr} {cap : Nat} (hv : v = .slice A o.length cap) : PiecesAt w A o := fun k hk => by
  rw [List.length_map] at hk
  obtain ⟨g, cap', hv', _, hg, _, _, hc, _⟩ := own_at h (by omega)
  rw [hv] at hv'
  injection hv' with e1 _ _
  subst e1
  refine ⟨g, 0, rfl, hg, fun i x hx => ?_⟩
  rw [List.getElem?_map] at hx
  cases hp : o[i]? with
  | none => rw [hp] at hx; cases hx
  | some p =>
    rw [hp] at hx
    injection hx with hx
    subst hx
    obtain ⟨h1, h2, h3⟩ := outV_at hp
    rw [Nat.zero_add]
    exact ⟨hc _ _ h1, hc _ _ h2, hc _ _ h3⟩
/-- pieces that may be -/
def MayAll (n : Nat) (o : Pieces) : Prop := ∀ p ∈ o, p.1 < n ∧ 0 ≤ p.2.1 ∧ p.2.1 ≤ p.2.2 ∧ p.2.2 ≤ 61000000000
def TruePost (w : World) (e : Ending) (w' : World) : Prop := e = .returned (.bool true) ∧ w.Since w.heap.size w'
theorem may_any (a b c : Int) (w : World) (h0 : 0 ≤ b) (h1 : b ≤ c) (h2 : c ≤ 61000000000) : Calls Try.prog 22 #[.agg #[.int .i64 a, .int .i64 b, .int .i64 c]] w (TruePost w) := by
  have h3 : decide (c ≤ 100000000000) = true := decide_eq_true (by omega)
  go_enter Try.func22, Try.ntmps22
  go_wp2
  go_ret
  exact ⟨rfl, (World.Since.refl _ _).alloc (Nat.le_refl _) _⟩
def EndsPost (n : Nat) (o : Pieces) (w : World) (e : Ending) (w' : World) : Prop :=
  w.Since w.heap.size w' ∧ ∃ g, e = .returned (.slice (some ⟨g, 0, none⟩) n n) ∧ w.heap.size ≤ g ∧ w'.rowIs g 3 n (fun i => .int .i64 (endOf o i))
set_option maxHeartbeats 4000000 in
theorem Ends_any (A : Option Addr) (cap : Nat) (n : Nat) (A2 : Option Addr) (cap2 : Nat) (o : Pieces) (w : World) (hn : n ≤ 60) (hP : PiecesAt w A2 o) (hm : MayAll n o) (hol : o.length ≤ 61000000000) :
    Calls Try.prog 10 #[.slice A n cap, .slice A2 o.length cap2] w (EndsPost n o w) := by
  have hmk := run_make_row' (P := Try.prog) 30 3 (.int .i64 0) 8 Try.underlying30 info_int rfl .i64 .i64 n (by omega) (by omega)
  have HP := Lib.hid hP
  have HM := Lib.hid hm
  clear hP hm
  go_enter Try.func10, Try.ntmps10
  go_wp2
  clear hmk
  go_loopg [13] o.length (fun g i wr => ∃ k : Nat, k ≤ o.length ∧ g = o.length - k ∧ i = .int .i64 k ∧ w.Since w.heap.size wr ∧ wr.rowIs w.heap.size 3 n (fun i => .int .i64 (endOf (o.take k) i)))
  case atStart => exact ⟨0, Nat.zero_le _, rfl, rfl, (World.Since.refl _ _).alloc (Nat.le_refl _) _, World.rowIs_made w _ _ 3⟩
  case round =>
    obtain ⟨k, hk, rfl, rfl, hs, hrow⟩ := hrel
    by_cases hkl : k < o.length
    · have hkz : (k : Int) < (o.length : Int) := by omega
      obtain ⟨b, off, rfl, hb, hc⟩ := HP.out k (by rw [List.length_map]; exact hkl)
      obtain ⟨p, hp⟩ : ∃ p, o[k]? = some p := ⟨o[k], List.getElem?_eq_getElem hkl⟩
      obtain ⟨c0, c1, c2⟩ := hc k (pz p) (by rw [List.getElem?_map, hp]; rfl)
      rw [← hs.cell (show b < w.heap.size from hb)] at c0 c1 c2
      obtain ⟨m1, m2, m3, m4⟩ := HM.out p (List.mem_of_getElem? hp)
      have ht : o.take (k + 1) = o.take k ++ [p] := take_snoc' hp
      have Ht := Lib.hid ht
      clear ht hp hc
      obtain ⟨p1, p2, p3⟩ := p
      simp only [pz] at c0 c1 c2
      simp only at m1 m2 m3 m4
      have m1z : (p1 : Int) < (n : Int) := by omega
      have g1 := hrow.cell m1
      obtain ⟨e1, he1⟩ : ∃ e, e = endOf (o.take k) p1 := ⟨_, rfl⟩
      rw [← he1] at g1
      have He1 := Lib.hid he1
      clear he1
      go_wp2_with fail
      refine (may_any _ _ _ _ m2 m3 m4).mono ?_
      rintro e w2 ⟨rfl, hs2⟩
      have hrow2 := (hrow.alloc (Obj.cells #[Value.int .i64 (p1 : Nat), Value.int .i64 p2, Value.int .i64 p3] 36)).of_block (hs2.block _ (hrow.alloc _).lt)
      have hs3 := since_join (hs.alloc hs.size (Obj.cells #[Value.int .i64 (p1 : Nat), Value.int .i64 p2, Value.int .i64 p3] 36)) hs2
      have d0 : w2.cell? ⟨wr.heap.size, 0, none⟩ = some (.int .i64 (p1 : Nat)) := by rw [hs2.cell (by simp)]; simp
      have d1 : w2.cell? ⟨wr.heap.size, 1, none⟩ = some (.int .i64 p2) := by rw [hs2.cell (by simp)]; simp
      have d2 : w2.cell? ⟨wr.heap.size, 2, none⟩ = some (.int .i64 p3) := by rw [hs2.cell (by simp)]; simp
      have g2 := hrow2.cell m1
      have g3 := hrow2.frozen p1
      rw [← He1.out] at g2
      clear d1
      go_wp2
      go_region
      obtain ⟨mx, hmx⟩ : ∃ mx, mx = (if e1 < p3 then p3 else e1) := ⟨_, rfl⟩
      rw [← hmx]
      have Hmx := Lib.hid hmx
      clear hmx
      go_wp2
      go_roundg (o.length - (k + 1))
      case measure => go_light; omega
      case rel =>
        go_light
        refine ⟨k + 1, by omega, rfl, by go_num, (hs3.setCell (a := ⟨w.heap.size, p1, none⟩) (Nat.le_refl _) _).drew, (World.rowIs.drew (hrow2.set p1 _)).congr (fun i hi => ?_)⟩
        rw [Ht.out, endOf_snoc]
        by_cases e : i = p1
        · subst e
          rw [if_pos rfl, if_pos rfl, Hmx.out, He1.out]
          congr 1
          simp only
          split <;> omega
        · rw [if_neg e, if_neg (fun x => e x.symm)]
    · obtain rfl : o.length = k := by omega
      go_wp2
      go_ret
      rw [List.take_of_length_le (Nat.le_refl _)] at hrow
      exact ⟨hs, _, rfl, Nat.le_refl _, hrow⟩
/-- how much is still to be done, as Work reckons it -/
def come (js : List Job) (at' : Int) : Int := (js.map fun x => if x.1 ≤ at' then x.2.1 else 0).sum
theorem come_bd {js : List Job} (h : ∀ x ∈ js, jobOk x) (at' : Int) : 0 ≤ come js at' ∧ come js at' ≤ 1000000000 * (js.length : Int) := by
  unfold come
  induction js with
  | nil => simp
  | cons x js ih =>
    have h1 := ih (fun y hy => h y (List.mem_cons_of_mem _ hy))
    have h2 := (h x (List.mem_cons_self ..)).2.1
    rw [List.map_cons, List.sum_cons, List.length_cons]
    split <;> omega
theorem come_snoc (js : List Job) (x : Job) (at' : Int) : come (js ++ [x]) at' = come js at' + if x.1 ≤ at' then x.2.1 else 0 := by simp [come, List.sum_append]
theorem served_nonneg (o : Pieces) (t : Int) : 0 ≤ PathM.served o t := by
  unfold PathM.served
  induction o with
  | nil => exact Int.le_refl _
  | cons p o ih =>
    rw [List.map_cons, List.sum_cons]
    have : 0 ≤ PathM.pos (min t p.2.2 - p.2.1) := by unfold PathM.pos; omega
    omega
theorem served_take {o : Pieces} {t : Int} (k : Nat) : PathM.served (o.take k) t ≤ PathM.served o t := by
  have h : PathM.served o t = PathM.served (o.take k) t + PathM.served (o.drop k) t := by
    conv => lhs; rw [← List.take_append_drop k o]
    unfold PathM.served
    rw [List.map_append, List.sum_append]
  have := served_nonneg (o.drop k) t
  omega
set_option maxHeartbeats 4000000 in
theorem Work_any (A : Option Addr) (cap : Nat) (js : List Job) (A2 : Option Addr) (cap2 : Nat) (o : Pieces) (at' : Int) (w : World) (hn : js.length ≤ 60) (hJ : JobsAt w A js) (hok : ∀ x ∈ js, jobOk x) (hP : PiecesAt w A2 o) (hm : MayAll js.length o) (hol : o.length ≤ 61000000000) (hsv : PathM.served o at' ≤ 61000000000) :
    Calls Try.prog 11 #[.slice A js.length cap, .slice A2 o.length cap2, .int .i64 at'] w fun e w' => e = .returned (.int .i64 (come js at' - PathM.served o at')) ∧ w.Since w.heap.size w' := by
  have HJ := Lib.hid hJ
  have HP := Lib.hid hP
  have HM := Lib.hid hm
  have HO := Lib.hid hok
  have Hsv := Lib.hid hsv
  have Hcd := Lib.hid (come_bd hok at')
  clear hJ hP hm hok hsv
  go_enter Try.func11, Try.ntmps11
  go_wp2
  go_loopg [7, 15] js.length (fun g v i wr => ∃ k : Nat, k ≤ js.length ∧ g = js.length - k ∧ i = .int .i64 k ∧ v = .int .i64 (come (js.take k) at') ∧ w.Since w.heap.size wr)
  case atStart => exact ⟨0, Nat.zero_le _, rfl, rfl, rfl, World.Since.refl _ _⟩
  case round =>
    obtain ⟨k, hk, rfl, rfl, rfl, hs⟩ := hrel
    by_cases hkl : k < js.length
    · have hkz : (k : Int) < (js.length : Int) := by omega
      obtain ⟨b, off, rfl, hb, hc⟩ := HJ.out k hkl
      obtain ⟨x, hx⟩ : ∃ x, js[k]? = some x := ⟨js[k], List.getElem?_eq_getElem hkl⟩
      obtain ⟨c0, c1, c2⟩ := hc k x hx
      rw [← hs.cell (show b < w.heap.size from hb)] at c0 c1 c2
      have hxo := (HO.out x (List.mem_of_getElem? hx)).2.1
      have hcb := come_bd (js := js.take k) (fun y hy => HO.out y (List.mem_of_mem_take hy)) at'
      have hcl : (js.take k).length ≤ 60 := by rw [List.length_take]; omega
      have ht := come_snoc (js.take k) x at'
      rw [← take_snoc' hx] at ht
      have Ht := Lib.hid ht
      obtain ⟨c, hcc⟩ : ∃ c, c = come (js.take k) at' := ⟨_, rfl⟩
      rw [← hcc] at hcb ⊢
      have Hcc := Lib.hid hcc
      clear hx hc ht hcc
      obtain ⟨x1, x2, x3⟩ := x
      simp only at c0 c1 c2 hxo
      have hc2 : c + x2 ≤ 61000000000 := by omega
      have hc3 : 0 ≤ c + x2 := by omega
      by_cases hle : x1 ≤ at'
      · go_wp2
        go_roundg (js.length - (k + 1))
        case measure => go_light; omega
        case rel =>
          go_light
          exact ⟨k + 1, by omega, rfl, by go_num, by rw [Ht.out, ← Hcc.out, if_pos hle], hs.alloc hs.size _⟩
      · go_wp2
        go_roundg (js.length - (k + 1))
        case measure => go_light; omega
        case rel =>
          go_light
          exact ⟨k + 1, by omega, rfl, by go_num, by rw [Ht.out, ← Hcc.out, if_neg (by show ¬ x1 ≤ at'; omega), Int.add_zero], hs.alloc hs.size _⟩
    · obtain rfl : js.length = k := by omega
      rw [List.take_of_length_le (Nat.le_refl _)]
      have hcb := Hcd.out
      obtain ⟨c, hcc⟩ : ∃ c, c = come js at' := ⟨_, rfl⟩
      rw [← hcc] at hcb ⊢
      have Hcc := Lib.hid hcc
      clear hcc
      go_wp2
      go_loopg [7, 30] o.length (fun g v i wr => ∃ k : Nat, k ≤ o.length ∧ g = o.length - k ∧ i = .int .i64 k ∧ v = .int .i64 (c - PathM.served (o.take k) at') ∧ w.Since w.heap.size wr)
      case atStart => exact ⟨0, Nat.zero_le _, rfl, rfl, by simp [PathM.served], hs⟩
      case round =>
        clear hs
        obtain ⟨k, hk, rfl, rfl, rfl, hs⟩ := hrel
        by_cases hkl : k < o.length
        · have hkz : (k : Int) < (o.length : Int) := by omega
          obtain ⟨b, off, rfl, hb, hc⟩ := HP.out k (by rw [List.length_map]; exact hkl)
          obtain ⟨p, hp⟩ : ∃ p, o[k]? = some p := ⟨o[k], List.getElem?_eq_getElem hkl⟩
          obtain ⟨c0, c1, c2⟩ := hc k (pz p) (by rw [List.getElem?_map, hp]; rfl)
          rw [← hs.cell (show b < w.heap.size from hb)] at c0 c1 c2
          obtain ⟨m1, m2, m3, m4⟩ := HM.out p (List.mem_of_getElem? hp)
          have ht := served_append (o.take k) p at'
          rw [← take_snoc' hp] at ht
          have h1 := served_nonneg (o.take k) at'
          have h2 := served_take (o := o) (t := at') (k + 1)
          have h2s := Hsv.out
          have h3 := served_nonneg (o.take (k + 1)) at'
          obtain ⟨s1, hs1⟩ : ∃ s, s = PathM.served (o.take k) at' := ⟨_, rfl⟩
          obtain ⟨s2, hs2⟩ : ∃ s, s = PathM.served (o.take (k + 1)) at' := ⟨_, rfl⟩
          rw [← hs1] at h1 ht ⊢
          rw [← hs2] at h2 h3 ht
          have Ht := Lib.hid ht
          have Hs2 := Lib.hid hs2
          have h4 : s2 ≤ 61000000000 := by omega
          obtain ⟨p1, p2, p3⟩ := p
          simp only [pz] at c0 c1 c2
          simp only at m1 m2 m3 m4 ht
          have h5 : s1 ≤ s2 := by rw [ht]; unfold PathM.pos; omega
          have h6 : min at' p3 - p2 ≤ 61000000000 := by omega
          clear hs1 hs2 hp hc ht h2 h2s
          go_upto_region 12 with fail
          obtain ⟨y, hy⟩ : ∃ y, y = (if at' < p3 then at' else p3) := ⟨_, rfl⟩
          rw [← hy]
          have hy2 : y = min at' p3 := by rw [hy]; split <;> omega
          have Hy := Lib.hid hy2
          have h7 : y - p2 ≤ 61000000000 := by omega
          have h8 : p2 < y → s2 = s1 + (y - p2) := fun h => by rw [Ht.out, hy2]; show s1 + PathM.pos (min at' p3 - p2) = _; unfold PathM.pos; omega
          have h9 : ¬ p2 < y → s2 = s1 := fun h => by rw [Ht.out]; show s1 + PathM.pos (min at' p3 - p2) = _; unfold PathM.pos; omega
          have H8 := Lib.hid h8
          have H9 := Lib.hid h9
          clear hy hy2 h8 h9 h6
          by_cases hlt : p2 < y
          · have h10 := H8.out hlt
            have h11 : s1 + (y - p2) ≤ 61000000000 := by omega
            clear h10
            have hcb1 := hcb.1
            go_wp2_with fail
            refine (may_any _ _ _ _ m2 m3 m4).mono ?_
            rintro e w2 ⟨rfl, hsw⟩
            have hs3 := since_join (hs.alloc hs.size (Obj.cells #[Value.int .i64 (p1 : Nat), Value.int .i64 p2, Value.int .i64 p3] 36)) hsw
            have d1 : w2.cell? ⟨wr.heap.size, 1, none⟩ = some (.int .i64 p2) := by rw [hsw.cell (by simp)]; simp
            go_wp2
            go_roundg (o.length - (k + 1))
            case measure => go_light; omega
            case rel =>
              go_light
              refine ⟨k + 1, by omega, rfl, by go_num, ?_, hs3⟩
              rw [← Hs2.out, H8.out hlt]
              congr 1
              omega
          · go_wp2_with fail
            refine (may_any _ _ _ _ m2 m3 m4).mono ?_
            rintro e w2 ⟨rfl, hsw⟩
            have hs3 := since_join (hs.alloc hs.size (Obj.cells #[Value.int .i64 (p1 : Nat), Value.int .i64 p2, Value.int .i64 p3] 36)) hsw
            have d1 : w2.cell? ⟨wr.heap.size, 1, none⟩ = some (.int .i64 p2) := by rw [hsw.cell (by simp)]; simp
            go_wp2
            go_roundg (o.length - (k + 1))
            case measure => go_light; omega
            case rel =>
              go_light
              refine ⟨k + 1, by omega, rfl, by go_num, ?_, hs3⟩
              rw [← Hs2.out, H9.out (by omega)]
        · obtain rfl : o.length = k := by omega
          rw [List.take_of_length_le (Nat.le_refl _)]
          go_wp2
          go_ret
          exact ⟨by rw [Hcc.out]; rfl, hs⟩
end Go.Proofs.Ytekjddcckkelnaa
