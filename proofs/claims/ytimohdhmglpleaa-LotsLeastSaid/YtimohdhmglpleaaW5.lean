/- lots: LotsLeast's walk: whatever comes, true; nothing that was there turns. -/
import Derived.Test.YtimohdhmglpleaaW4
import Derived.Test.YtimohdhmglpleaaFlowed
namespace Go.Proofs.Ytimohdhmglpleaa
open Go.RowKit PermM LotsM

/-! ### what the plan's own look needs -/
theorem ok_hv {w x : Nat → Int} {n : Nat} (h : ok w x 0 0 n) : ∀ t, t ≤ n → ok w x t (hv w x t) (n - t) ∧ 0 ≤ hv w x t
  | 0, _ => ⟨h, Int.le_refl _⟩
  | t + 1, ht => by
    obtain ⟨h1, _⟩ := ok_hv h t (by omega)
    rw [show n - t = n - (t + 1) + 1 by omega] at h1
    exact ⟨h1.2.2, h1.1⟩
theorem ok_fin {w x : Nat → Int} {n : Nat} (h : ok w x 0 0 n) : hv w x n = 0 := by
  have := (ok_hv h n (Nat.le_refl _)).1
  rw [Nat.sub_self] at this
  exact this
theorem ok_none {w x : Nat → Int} {n : Nat} (h : ok w x 0 0 n) {t : Nat} (ht : t < n) : 0 < hv w x t → x t ≤ 0 := by
  have h1 := (ok_hv h t (by omega)).1
  rw [show n - t = n - (t + 1) + 1 by omega] at h1
  exact h1.2.1
theorem hv_pre (w x : Nat → Int) : ∀ t, hv w x t = pre x t - pre w t
  | 0 => rfl
  | t + 1 => by
    show hv w x t + x t - w t = pre x t + x t - (pre w t + w t)
    rw [hv_pre w x t]; omega
theorem x_le {w x : Nat → Int} (hw : ∀ t, 0 ≤ w t ∧ w t ≤ 1000000) (hx : ∀ t, 0 ≤ x t) {n : Nat} (hn : n ≤ 50) (h : ok w x 0 0 n) {t : Nat} (ht : t < n) : x t ≤ 50000000 := by
  have h1 := ok_fin h
  rw [hv_pre] at h1
  have h2 := pre_mono hx (show t + 1 ≤ n by omega)
  have h3 := pre_mono hx (show 0 ≤ t by omega)
  have h4 : pre x (t + 1) = pre x t + x t := rfl
  have h5 : pre x 0 = 0 := rfl
  have h6 := pre_bd hw n
  omega
theorem hv_congr {w x y : Nat → Int} {n : Nat} (h : ∀ u, u < n → x u = y u) : ∀ t, t ≤ n → hv w x t = hv w y t
  | 0, _ => rfl
  | t + 1, ht => by
    show hv w x t + x t - w t = hv w y t + y t - w t
    rw [hv_congr h t (by omega), h t (by omega)]
theorem cost_congr {w O K x y : Nat → Int} {n : Nat} (h : ∀ u, u < n → x u = y u) : ∀ t, t ≤ n → cost w O K x t = cost w O K y t
  | 0, _ => rfl
  | t + 1, ht => by
    show cost w O K x t + (if 0 < x t then O t else 0) + hv w x (t + 1) * K t = cost w O K y t + (if 0 < y t then O t else 0) + hv w y (t + 1) * K t
    rw [cost_congr h t (by omega), h t (by omega), hv_congr h (t + 1) ht]
/-- the plan as a list -/
def planL (n : Nat) (x : Nat → Int) : List Int := (List.range n).map x
theorem planL_len (n : Nat) (x : Nat → Int) : (planL n x).length = n := by simp [planL]
theorem planL_get {n : Nat} {x : Nat → Int} {u : Nat} (h : u < n) : fn (planL n x) u = x u := by
  apply fn_at
  unfold planL
  rw [List.getElem?_map, List.getElem?_range h]; rfl
theorem plan_cost {l o k : List Int} {x : Nat → Int} {c : Int} (t : NeedOk l o k) (h : PlanOk l o k x c) : CostOk l (planL l.length x) ∧ cost (fn l) (fn o) (fn k) (fn (planL l.length x)) l.length = c := by
  have hW : ∀ t, 0 ≤ fn l t ∧ fn l t ≤ 1000000 := fn_bd (by omega) t.okl
  have hc : ∀ u, u < l.length → x u = fn (planL l.length x) u := fun u hu => (planL_get hu).symm
  refine ⟨⟨planL_len _ _, fun y hy => ?_, fun t ht => ?_, ?_⟩, ?_⟩
  · unfold planL at hy
    obtain ⟨u, hu, rfl⟩ := List.mem_map.1 hy
    exact ⟨h.pos u, x_le hW h.pos t.few h.ok (List.mem_range.1 hu)⟩
  · rw [← hv_congr hc t ht]; exact (ok_hv h.ok t ht).2
  · rw [← hv_congr hc _ (Nat.le_refl _)]; exact ok_fin h.ok
  · rw [← cost_congr hc _ (Nat.le_refl _), ← h.cost]
    have := sc_cost (w := fn l) (O := fn o) (K := fn k) x l.length 0
    rw [Nat.zero_add] at this
    rw [← this]
    show cost _ _ _ x 0 + sc _ _ _ x 0 0 _ = _
    show (0 : Int) + _ = _
    omega
theorem costok_best {l o k od : List Int} {x : Nat → Int} {c : Int} (h : PlanOk l o k x c) (hc : CostOk l od) : c ≤ cost (fn l) (fn o) (fn k) (fn od) l.length := by
  refine h.best (fn od) (fun u => (fn_bd (B := 50000000) (by omega) hc.ok u).1) hc.hv
theorem plan_ints {w : World} {g n : Nat} {x : Nat → Int} (h : w.rowIs g 3 n (fun i => .int .i64 (x i))) : IntsAt w (some ⟨g, 0, none⟩) (planL n x) :=
  IntsAt.row (n := n) (planL_len n x).symm (fun i hi => by
    have := planL_get (x := x) hi
    unfold fn at this
    rw [this]) h
def BadPlan (w : World) (e : Ending) (w' : World) : Prop := w.Since w.heap.size w' ∧ ∃ k : Int, e = .returned (.tuple #[.slice none 0 0, .int .i64 0, .iface 40 (.int .i64 k)])
theorem Plan_bad {A B C : Option Addr} {ca cb cc : Nat} {l o k : List Int} {w : World} (hl : IntsAt w A l) (ho : IntsAt w B o) (hk : IntsAt w C k) (n1 : l.length ≤ 1000000000) (n2 : o.length ≤ 1000000000) (n3 : k.length ≤ 1000000000) (t : ¬ NeedOk l o k) :
    Calls Try.prog 4 #[.agg #[.slice A l.length ca, .slice B o.length cb, .slice C k.length cc]] w (BadPlan w) := by
  have hs : ∀ u t, w.Since w.heap.size (w.alloc (.cells u t)) := fun u t => (World.Since.refl _ _).alloc (Nat.le_refl _) _
  have Hs := Lib.hid hs
  have C1 : ∀ W, w.Since w.heap.size W → Calls Try.prog 7 #[.agg #[.slice A l.length ca, .slice B o.length cb, .slice C k.length cc]] W fun e w' => (∃ c : Int, e = .returned (.iface 40 (.int .i64 c))) ∧ W.Since W.heap.size w' := fun W hW => Check_bad (hl.same hW) (ho.same hW) (hk.same hW) n1 n2 n3 t
  have K1 := Lib.hid C1
  clear hs C1 hl ho hk t
  go_enter Try.func4, Try.ntmps4
  go_wp2_with fail
  refine (K1.out _ (Hs.out _ _)).mono ?_
  rintro e w1 ⟨⟨c, rfl⟩, hs1⟩
  have hs2 := since_join (Hs.out _ _) hs1
  go_wp2
  go_ret3
  exact ⟨hs2, c, rfl⟩
end Go.Proofs.Ytimohdhmglpleaa
