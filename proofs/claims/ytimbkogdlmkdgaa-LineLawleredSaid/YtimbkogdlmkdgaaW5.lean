/- line: Smith, Jackson, Cost, Late. -/
import Derived.Test.YtimbkogdlmkdgaaW4
namespace Go.Proofs.Ytimbkogdlmkdgaa
open Go.RowKit PermM StabM LineM

theorem Smith_ok {A : Option Addr} {cap : Nat} {js : List Tri} {w : World} (h : TriAt w A js) (t : TasksOk js) : Calls Try.prog 7 #[.slice A js.length cap] w (SortedPost js smithF w) := by
  have C := Lib.hid (sorted_ok (cap := cap) (fun _ _ => by kernel_rfl) smith_less h t (pre_smith t))
  clear h t
  go_enter Try.func7, Try.ntmps7
  go_wp2_with fail
  refine C.out.mono ?_
  rintro e w5 ⟨hs, g, f, rfl, hg, hrow, hf⟩
  go_wp2
  go_ret2
  exact ⟨hs, g, f, rfl, hg, hrow, hf⟩
theorem Smith_bad {A : Option Addr} {cap : Nat} {js : List Tri} {w : World} (h : TriAt w A js) (hlen : js.length ≤ 9223372036854775807) (t : ¬ TasksOk js) : Calls Try.prog 7 #[.slice A js.length cap] w (BadPost w) := by
  have C := Lib.hid (sorted_bad (gl := 18) (cap := cap) h hlen t)
  clear h t
  go_enter Try.func7, Try.ntmps7
  go_wp2_with fail
  refine C.out.mono ?_
  rintro e w5 ⟨hs, k, rfl⟩
  go_wp2
  go_ret2
  exact ⟨hs, k, rfl⟩
theorem Jackson_ok {A : Option Addr} {cap : Nat} {js : List Tri} {w : World} (h : TriAt w A js) (t : TasksOk js) : Calls Try.prog 11 #[.slice A js.length cap] w (SortedPost js jackF w) := by
  have C := Lib.hid (sorted_ok (cap := cap) (fun _ _ => by kernel_rfl) jack_less h t (pre_jack js))
  clear h t
  go_enter Try.func11, Try.ntmps11
  go_wp2_with fail
  refine C.out.mono ?_
  rintro e w5 ⟨hs, g, f, rfl, hg, hrow, hf⟩
  go_wp2
  go_ret2
  exact ⟨hs, g, f, rfl, hg, hrow, hf⟩
theorem Jackson_bad {A : Option Addr} {cap : Nat} {js : List Tri} {w : World} (h : TriAt w A js) (hlen : js.length ≤ 9223372036854775807) (t : ¬ TasksOk js) : Calls Try.prog 11 #[.slice A js.length cap] w (BadPost w) := by
  have C := Lib.hid (sorted_bad (gl := 22) (cap := cap) h hlen t)
  clear h t
  go_enter Try.func11, Try.ntmps11
  go_wp2_with fail
  refine C.out.mono ?_
  rintro e w5 ⟨hs, k, rfl⟩
  go_wp2
  go_ret2
  exact ⟨hs, k, rfl⟩
/-- the row that sorted answers, as a list -/
def rowL (n : Nat) (f : Nat → Nat) : List Nat := seg f 0 n
theorem rowL_get {n : Nat} {f : Nat → Nat} {i : Nat} (hi : i < n) : (rowL n f).getD i 0 = f i := by
  unfold rowL seg
  rw [List.getD_eq_getElem?_getD, List.getElem?_map, List.getElem?_range' (by omega)]
  simp
theorem rowL_perm {n : Nat} {f : Nat → Nat} {cf : Nat → Nat → Int} (h : SortPost cf n 0 n (fun i => i) f) : IsPerm n (rowL n f) := by
  have hp := h.perm.perm
  have e : seg (fun i => i) 0 n = List.range n := by unfold seg; simp [List.range_eq_range']
  rw [e] at hp
  exact ⟨by show (seg f 0 n).length = n; rw [hp.length_eq, List.length_range], hp.nodup_iff.2 List.nodup_range, fun x hx => List.mem_range.1 (hp.mem_iff.1 hx)⟩
theorem perm_range {n : Nat} {l : List Nat} (h : IsPerm n l) : l.Perm (List.range n) :=
  (List.perm_ext_iff_of_nodup h.nodup List.nodup_range).2 (fun x => ⟨fun hx => List.mem_range.2 (h.lt x hx), fun hx => h.all x (List.mem_range.1 hx)⟩)
theorem rowL_sorted {n : Nat} {f : Nat → Nat} {cf : Nat → Nat → Int} (h : SortPost cf n 0 n (fun i => i) f) : (rowL n f).Pairwise (leC cf) := by
  rw [List.pairwise_iff_getElem]
  intro i j hi hj hij
  have hl : (rowL n f).length = n := by unfold rowL seg; simp
  have e : ∀ k (hk : k < (rowL n f).length), (rowL n f)[k] = f k := fun k hk => by
    have := rowL_get (n := n) (f := f) (i := k) (by omega)
    rw [List.getD_eq_getElem?_getD, List.getElem?_eq_getElem hk] at this
    exact this
  rw [e i hi, e j hj]
  exact h.sorted i j (Nat.zero_le _) hij (by omega)
theorem row_ints {w : World} {g n : Nat} {f : Nat → Nat} (h : w.rowIs g 3 n (natF f)) : IntsAt w (some ⟨g, 0, none⟩) (ints (rowL n f)) :=
  natsAt (n := n) (by unfold rowL seg; simp) (h.congr (fun i hi => by unfold natF natsV; rw [rowL_get hi]))
theorem endIn_bd {p : Nat → Int} (hp : ∀ i, 0 ≤ p i) {i : Nat} : ∀ (l : List Nat) (t : Int), 0 ≤ t → 0 ≤ endIn p t l i ∧ endIn p t l i ≤ t + sumI p l
  | [], t, ht => by simp [endIn, sumI]; omega
  | x :: l, t, ht => by
    have h1 := hp x
    have h2 := endIn_bd hp (i := i) l (t + p x) (by omega)
    have h3 : 0 ≤ sumI p l := by
      clear h2
      induction l with
      | nil => exact Int.le_refl _
      | cons y l ih => rw [sumI_cons]; have := hp y; omega
    have e : endIn p t (x :: l) i = if i = x then t + p x else endIn p (t + p x) l i := rfl
    rw [e, sumI_cons]
    split <;> omega
theorem ends_bd {js : List Tri} (t : TasksOk js) {l : List Nat} (hl : l.length ≤ 60) (i : Nat) : 0 ≤ endIn (lg js) 0 l i ∧ endIn (lg js) 0 l i ≤ 60000000000 := by
  have h1 := endIn_bd (p := lg js) (fun i => (task_bd t i).1.1) (i := i) l 0 (Int.le_refl _)
  have h2 := sum_bd t l
  omega
def wcost (js : List Tri) (l : List Nat) (i : Nat) : Int := wg js i * endIn (lg js) 0 l i
theorem wcost_bd {js : List Tri} (t : TasksOk js) {l : List Nat} (hl : l.length ≤ 60) (i : Nat) : 0 ≤ wcost js l i ∧ wcost js l i ≤ 600000000000000 := by
  have h1 := ends_bd t hl i
  have h2 := (task_bd t i).2.1
  unfold wcost
  refine ⟨Int.mul_nonneg h2.1 h1.1, ?_⟩
  have h3 : wg js i * endIn (lg js) 0 l i ≤ 10000 * endIn (lg js) 0 l i := Int.mul_le_mul_of_nonneg_right h2.2 h1.1
  omega
theorem sum_snocR (f : Nat → Int) (k : Nat) : sumI f (List.range (k + 1)) = sumI f (List.range k) + f k := by
  rw [List.range_succ, sumI_append]; simp [sumI]
theorem wsum_bd {js : List Tri} (t : TasksOk js) {l : List Nat} (hl : l.length ≤ 60) : ∀ k, 0 ≤ sumI (wcost js l) (List.range k) ∧ sumI (wcost js l) (List.range k) ≤ 600000000000000 * (k : Int)
  | 0 => by simp [sumI]
  | k + 1 => by
    have h1 := wsum_bd t hl k
    have h2 := wcost_bd t hl k
    rw [sum_snocR]; omega
def CostPost (js : List Tri) (l : List Nat) (w : World) (e : Ending) (w' : World) : Prop := w.Since w.heap.size w' ∧ e = .returned (.tuple #[.int .i64 (cost (lg js) (wg js) 0 l), .nilIface])
set_option maxHeartbeats 4000000 in
theorem Cost_ok {A : Option Addr} {cap : Nat} {js : List Tri} {A2 : Option Addr} {cap2 : Nat} {l : List Nat} {w : World} (h : TriAt w A js) (t : TasksOk js) (h2 : IntsAt w A2 (ints l)) (hp : IsPerm js.length l) :
    Calls Try.prog 9 #[.slice A js.length cap, .slice A2 js.length cap2] w (CostPost js l w) := by
  have hfew := t.few
  have hll : l.length ≤ 60 := by rw [hp.len]; exact hfew
  have C := Lib.hid (Ends_ok (cap := cap) (cap2 := cap2) h t h2 hp)
  have HJ := Lib.hid h
  have HO := Lib.hid t
  have HC : Hid (cost (lg js) (wg js) 0 l = sumI (wcost js l) (List.range js.length)) := Lib.hid (by
    rw [cost_ends l 0 hp.nodup]
    exact sumI_perm (perm_range hp))
  clear h t h2 hp
  go_enter Try.func9, Try.ntmps9
  go_wp2_with fail
  refine C.out.mono ?_
  rintro e w1 ⟨hs1, g, rfl, hg, hrow⟩
  go_wp2
  go_loopg [8, 18] js.length (fun gh sv iv wr => ∃ (k m : Nat) (v : Int), k ≤ js.length ∧ gh = js.length - k ∧ iv = .int .i64 k ∧ sv = .int .i64 v ∧ Hid (v = sumI (wcost js l) (List.range k)) ∧ wr = w1.drewN m)
  case atStart => exact ⟨0, 0, 0, Nat.zero_le _, rfl, rfl, rfl, Lib.hid (by simp [sumI]), rfl⟩
  case round =>
    obtain ⟨k, m, v, hk, rfl, rfl, rfl, hv, rfl⟩ := hrel
    by_cases hkl : k < js.length
    · have hkz : (k : Int) < (js.length : Int) := by omega
      obtain ⟨b, off, rfl, hb, hc⟩ := HJ.out k hkl
      obtain ⟨y, hy⟩ : ∃ y, js[k]? = some y := ⟨js[k], List.getElem?_eq_getElem hkl⟩
      obtain ⟨_, c1, _⟩ := hc k y hy
      rw [← hs1.cell (show b < w.heap.size from hb)] at c1
      have hwg := (tri_at hy).2.1
      have g1 := hrow.cell hkl
      have b1 := ends_bd HO.out hll k
      have b2 := (task_bd HO.out k).2.1
      have b3 := wcost_bd HO.out hll k
      have b4 := wsum_bd HO.out hll k
      have hst := sum_snocR (wcost js l) k
      have hvv := hv.out
      rw [hwg] at b2
      have e3 : wcost js l k = y.2.1 * endIn (lg js) 0 l k := by unfold wcost; rw [hwg]
      rw [e3] at b3 hst
      generalize y.2.1 = y2 at *
      generalize endIn (lg js) 0 l k = ek at *
      have n1 : 0 ≤ v + y2 * ek := by omega
      have n2 : v + y2 * ek ≤ 600000000000000 * 61 := by omega
      have n3 : y2 * ek ≤ 600000000000000 := by omega
      have n4 : 0 ≤ y2 * ek := by omega
      have Hn : Hid (v + y2 * ek = sumI (wcost js l) (List.range (k + 1))) := Lib.hid (by omega)
      clear hc hy hwg b3 b4 hst hvv e3
      go_wp2
      go_quiet (fail)
      go_wp2
      go_roundg (js.length - (k + 1))
      case measure => go_light; omega
      case rel =>
        go_light
        exact ⟨k + 1, _, _, by omega, rfl, by go_num, rfl, Hn, rfl⟩
    · obtain rfl : js.length = k := by omega
      go_wp2
      go_ret2
      exact ⟨since_drewN hs1 m, by rw [HC.out, ← hv.out]; rfl⟩
/-- the latest -/
structure IsLate (js : List Tri) (l : List Nat) (m : Int) : Prop where
  all : ∀ i, i < js.length → endIn (lg js) 0 l i - du js i ≤ m
  one : ∃ i, i < js.length ∧ m = endIn (lg js) 0 l i - du js i
def LatePost (js : List Tri) (l : List Nat) (w : World) (e : Ending) (w' : World) : Prop := w.Since w.heap.size w' ∧ ∃ m, e = .returned (.tuple #[.int .i64 m, .nilIface]) ∧ ((js.length = 0 ∧ m = 0) ∨ (0 < js.length ∧ IsLate js l m))
set_option maxHeartbeats 4000000 in
theorem Late_ok {A : Option Addr} {cap : Nat} {js : List Tri} {A2 : Option Addr} {cap2 : Nat} {l : List Nat} {w : World} (h : TriAt w A js) (t : TasksOk js) (h2 : IntsAt w A2 (ints l)) (hp : IsPerm js.length l) :
    Calls Try.prog 12 #[.slice A js.length cap, .slice A2 js.length cap2] w (LatePost js l w) := by
  have hfew := t.few
  have hll : l.length ≤ 60 := by rw [hp.len]; exact hfew
  have C := Lib.hid (Ends_ok (cap := cap) (cap2 := cap2) h t h2 hp)
  have HJ := Lib.hid h
  have HO := Lib.hid t
  clear h t h2 hp
  by_cases hn0 : js.length = 0
  · have hb : ((js.length : Int) == 0) = true := by simp [hn0]
    have Hn0 := Lib.hid hn0
    clear hn0
    go_enter Try.func12, Try.ntmps12
    go_wp2_with fail
    refine C.out.mono ?_
    rintro e w1 ⟨hs1, g, rfl, hg, hrow⟩
    go_wp2
    go_ret2
    exact ⟨hs1, 0, rfl, .inl ⟨Hn0.out, rfl⟩⟩
  · have hb : ((js.length : Int) == 0) = false := beq_eq_false_iff_ne.2 (by omega)
    have hpos : 0 < js.length := by omega
    have hposz : (0 : Int) < (js.length : Int) := by omega
    clear hn0
    obtain ⟨b, off, rfl, hb', hc⟩ := HJ.out 0 hpos
    obtain ⟨y, hy⟩ : ∃ y, js[0]? = some y := ⟨js[0], List.getElem?_eq_getElem hpos⟩
    obtain ⟨_, _, c2⟩ := hc 0 y hy
    have hdu := (tri_at hy).2.2
    have b1 := ends_bd HO.out hll 0
    have b2 := (task_bd HO.out 0).2.2
    rw [hdu] at b2
    have Hdu := Lib.hid hdu
    have Hc := Lib.hid hc
    clear hc hy hdu
    generalize y.2.2 = y3 at *
    rw [Nat.zero_mul, Nat.add_zero] at c2
    go_enter Try.func12, Try.ntmps12
    go_wp2_with fail
    refine C.out.mono ?_
    rintro e w1 ⟨hs1, g, rfl, hg, hrow⟩
    rw [← hs1.cell (show b < w.heap.size from hb')] at c2
    have g0 := hrow.cell hpos
    obtain ⟨e0, he0⟩ : ∃ z, z = endIn (lg js) 0 l 0 := ⟨_, rfl⟩
    rw [← he0] at g0 b1
    have He0 := Lib.hid he0
    have n1 : -1000000000 ≤ e0 - y3 := by omega
    have n2 : e0 - y3 ≤ 60000000000 := by omega
    clear he0
    go_wp2
    go_quiet (fail)
    have Hm0 : Hid (e0 - y3 = endIn (lg js) 0 l 0 - du js 0) := Lib.hid (by rw [He0.out, Hdu.out])
    have q1 : -1000000000 ≤ e0 - y3 ∧ e0 - y3 ≤ 60000000000 := ⟨n1, n2⟩
    clear c2 g0 b1 b2 n1 n2
    generalize e0 - y3 = m0 at *
    go_wp2
    go_loopg [8, 34] js.length (fun gh sv iv wr => ∃ (k m : Nat) (v : Int), k ≤ js.length ∧ gh = js.length - k ∧ iv = .int .i64 k ∧ sv = .int .i64 v ∧ -1000000000 ≤ v ∧ v ≤ 60000000000 ∧ Hid ((∀ i, i < k → endIn (lg js) 0 l i - du js i ≤ v) ∧ ∃ i, i < js.length ∧ v = endIn (lg js) 0 l i - du js i) ∧ wr = w1.drewN m)
    case atStart => exact ⟨0, _, m0, Nat.zero_le _, rfl, rfl, rfl, q1.1, q1.2, Lib.hid ⟨fun i hi => by omega, 0, hpos, Hm0.out⟩, rfl⟩
    case round =>
      obtain ⟨k, m, v, hk, rfl, rfl, rfl, v1, v2, hv, rfl⟩ := hrel
      by_cases hkl : k < js.length
      · have hkz : (k : Int) < (js.length : Int) := by omega
        obtain ⟨y, hy⟩ : ∃ y, js[k]? = some y := ⟨js[k], List.getElem?_eq_getElem hkl⟩
        obtain ⟨_, _, c2⟩ := Hc.out k y hy
        rw [← hs1.cell (show b < w.heap.size from hb')] at c2
        have hdu := (tri_at hy).2.2
        have g1 := hrow.cell hkl
        have b1 := ends_bd HO.out hll k
        have b2 := (task_bd HO.out k).2.2
        have e3 : endIn (lg js) 0 l k - du js k = endIn (lg js) 0 l k - y.2.2 := by rw [hdu]
        rw [hdu] at b2
        have E3 := Lib.hid e3
        generalize y.2.2 = y3 at *
        obtain ⟨ek, hek⟩ : ∃ z, z = endIn (lg js) 0 l k := ⟨_, rfl⟩
        rw [← hek] at g1 b1
        have Hek := Lib.hid hek
        have n1 : -1000000000 ≤ ek - y3 := by omega
        have n2 : ek - y3 ≤ 60000000000 := by omega
        clear hy hdu e3 hek
        go_wp2
        go_quiet (fail)
        obtain ⟨z, hz⟩ : ∃ z, z = max v (ek - y3) := ⟨_, rfl⟩
        first
          | rw [show (if v < ek - y3 then ek - y3 else v) = z by rw [hz]; split <;> omega]
          | rw [show (if ek - y3 < v then v else ek - y3) = z by rw [hz]; split <;> omega]
        have z1 : -1000000000 ≤ z := by omega
        have z2 : z ≤ 60000000000 := by omega
        have Hz := Lib.hid hz
        clear hz
        go_wp2
        go_roundg (js.length - (k + 1))
        case measure => go_light; omega
        case rel =>
          go_light
          refine ⟨k + 1, _, z, by omega, rfl, by go_num, rfl, z1, z2, Lib.hid ⟨fun i hi => ?_, ?_⟩, rfl⟩
          · have hz := Hz.out
            by_cases e : i = k
            · subst e
              rw [E3.out, ← Hek.out]; omega
            · have := hv.out.1 i (by omega)
              omega
          · have hz := Hz.out
            by_cases hlt : v < ek - y3
            · exact ⟨k, hkl, by rw [E3.out, ← Hek.out]; omega⟩
            · obtain ⟨i, h1, h2⟩ := hv.out.2
              exact ⟨i, h1, by omega⟩
      · obtain rfl : js.length = k := by omega
        go_wp2
        go_ret2
        exact ⟨since_drewN hs1 m, v, rfl, .inr ⟨hpos, hv.out.1, hv.out.2⟩⟩
end Go.Proofs.Ytimbkogdlmkdgaa
