/- path: Waits, Many for one server, the law's own example (served). -/
import Derived.Test.YtekjddcckkelnaaW7
namespace Go.Proofs.Ytekjddcckkelnaa
open Go.RowKit PathM

theorem jobAt {js : List Job} {k : Nat} {x : Job} (h : js[k]? = some x) : atJ js k = x.1 ∧ szJ js k = x.2.1 := by
  unfold atJ szJ
  rw [List.getD_eq_getElem?_getD, h]
  exact ⟨rfl, rfl⟩
def wt (js : List Job) (i : Nat) : Int := S (atJ js) (szJ js) i - atJ js i
def wtV (js : List Job) (i : Nat) : Value := .int .i64 (wt js i)
theorem wt_bd {js : List Job} (h : JobsOk js) {i : Nat} (hi : i < js.length) : 0 ≤ wt js i ∧ wt js i ≤ 61000000000 := by
  have hJ := Jobs_of h
  have hl := jobs_le h
  have hf := F_bd hJ hl.1 hl.2 i (by omega)
  have h1 := S_ge (At := atJ js) (Sz := szJ js) i
  have h2 := hl.1 i hi
  have h3 := hJ.zero i hi
  have := h.few
  unfold wt
  have e : S (atJ js) (szJ js) i = max (F (atJ js) (szJ js) i) (atJ js i) := rfl
  omega
def RowPost (n : Nat) (f : Nat → Value) (w : World) (e : Ending) (w' : World) : Prop :=
  w.Since w.heap.size w' ∧ ∃ v, e = .returned (.tuple #[v, .nilIface]) ∧ w'.ownsRow w.heap.size 3 1 v n ((List.range n).map f)
theorem range_snoc (k : Nat) (f : Nat → Value) : (List.range (k + 1)).map f = (List.range k).map f ++ [f k] := by rw [List.range_succ, List.map_append]; rfl
theorem range_get {n k : Nat} (h : k < n) (f : Nat → Value) : ((List.range n).map f)[k]? = some (f k) := by
  rw [List.getElem?_map, List.getElem?_range h]; rfl
set_option maxHeartbeats 4000000 in
theorem Waits_bad (A : Option Addr) (cap : Nat) (js : List Job) (w : World) (h : JobsAt w A js) (hlen : js.length ≤ 9223372036854775807) (hno : ¬ JobsOk js) :
    Calls Try.prog 12 #[.slice A js.length cap] w (BadPost w) := by
  have hC : Calls Try.prog 14 #[.slice A js.length cap] w fun e w' => w.Since w.heap.size w' ∧ ∃ k : Int, e = .returned (.iface 45 (.int .i64 k)) :=
    (Check_any A cap js w h hlen).mono fun e w' ⟨h1, c, h2, h3⟩ => by
      cases c with
      | none => exact absurd (h3.1 rfl) hno
      | some k => exact ⟨h1, k, h2⟩
  have HC := Lib.hid hC
  clear hC h
  go_enter Try.func12, Try.ntmps12
  go_wp2_with fail
  refine HC.out.mono ?_
  rintro e w1 ⟨hs1, k, rfl⟩
  go_wp2
  go_ret2
  exact ⟨hs1, k, rfl⟩
set_option maxHeartbeats 4000000 in
theorem Waits_ok (A : Option Addr) (cap : Nat) (js : List Job) (w : World) (h : JobsAt w A js) (hok : JobsOk js) :
    Calls Try.prog 12 #[.slice A js.length cap] w (RowPost js.length (wtV js) w) := by
  have hfew := hok.few
  have hC : Calls Try.prog 14 #[.slice A js.length cap] w fun e w' => w.Since w.heap.size w' ∧ e = .returned .nilIface :=
    (Check_any A cap js w h (by omega)).mono fun e w' ⟨k1, c, k2, k3⟩ => by
      obtain rfl := k3.2 hok
      exact ⟨k1, k2⟩
  have HC := Lib.hid hC
  have HJ := Lib.hid h
  have HO := Lib.hid hok
  obtain ⟨i0, hi0, hz0, hz1, hz2⟩ := info_parts info_int
  have Hi0 := Lib.hid hi0
  have Hz0 := Lib.hid hz0
  have Hz1 := Lib.hid hz1
  have Hz2 := Lib.hid hz2
  clear hi0 hz0 hz1 hz2 hC h hok
  go_enter Try.func12, Try.ntmps12
  go_wp2_with fail
  refine HC.out.mono ?_
  rintro e w1 ⟨hs1, rfl⟩
  go_wp2
  go_loopg [5, 15] js.length (fun g v i wr => ∃ k : Nat, k ≤ js.length ∧ g = js.length - k ∧ i = .int .i64 k ∧ w.Since w.heap.size wr ∧ wr.ownsRow w.heap.size 3 1 v k ((List.range k).map (wtV js)))
  case atStart => exact ⟨0, Nat.zero_le _, rfl, rfl, hs1, World.ownsRow_nil _ _ _ _⟩
  case round =>
    clear hs1
    rename_i v
    obtain ⟨k, hk, rfl, rfl, hs, hown⟩ := hrel
    obtain ⟨A5, cap5, rfl, hcap5, _⟩ := own_form hown
    have hsz := hs.size
    by_cases hkl : k < js.length
    · have hkz : (k : Int) < (js.length : Int) := by omega
      obtain ⟨b, off, rfl, hb, hc⟩ := HJ.out k hkl
      obtain ⟨x, hx⟩ : ∃ x, js[k]? = some x := ⟨js[k], List.getElem?_eq_getElem hkl⟩
      obtain ⟨c0, _, _⟩ := hc k x hx
      rw [← hs.cell (show b < w.heap.size from hb)] at c0
      have hat := (jobAt hx).1
      have hwb := wt_bd HO.out hkl
      obtain ⟨wk, hwk⟩ : ∃ z, z = wt js k := ⟨_, rfl⟩
      have Hwk := Lib.hid hwk
      rw [← hwk] at hwb
      by_cases k0 : k = 0
      · have hw0 : wk = 0 := by
          rw [hwk, k0]
          exact lindley0 ((Jobs_of HO.out).zero 0 (by omega))
        have hkf : decide ((0 : Int) < (k : Int)) = false := decide_eq_false (by omega)
        have hkf' : decide (0 < k) = false := decide_eq_false (by omega)
        have K0 := Lib.hid k0
        have Hw0 := Lib.hid hw0
        clear k0 hw0 hwk hc hx hat
        have hown2 := hown.alloc (Obj.cells #[Value.int .i64 0] 3)
        go_wp2_with (at_builtin; refine wpList_append_own _ rfl _ _ 30 rfl w.heap.size 3 i0 (.int .i64 0) 1 8 Try.underlying30 Hi0.out Hz0.out Hz1.out Hz2.out rfl (by decide) _ _ _ rfl hown2 ⟨wr.heap.size, 0, none⟩ 1 1 [.int .i64 0] rfl rfl (one_new _ _ _) (by intro u hu; simp at hu; subst hu; rfl) (by unfold maxLen; omega) (by omega) (by simp; omega) ?_; intro v8 w8 hown8 hg8 _)
        have hs8 := own_grown (hs.alloc hs.size (Obj.cells #[Value.int .i64 0] 3)) hown2 hg8 (by simp; omega)
        go_wp2
        go_roundg (js.length - (k + 1))
        case measure => go_light; omega
        case rel =>
          go_light
          refine ⟨k + 1, by omega, rfl, by go_num, hs8, ?_⟩
          rw [range_snoc, show wtV js k = .int .i64 0 by unfold wtV; rw [← Hwk.out, Hw0.out]]
          exact hown8
      · obtain ⟨q, rfl⟩ : ∃ q, k = q + 1 := ⟨k - 1, by omega⟩
        obtain ⟨y, hy⟩ : ∃ y, js[q]? = some y := ⟨js[q], List.getElem?_eq_getElem (by omega)⟩
        obtain ⟨d0, d1, _⟩ := hc q y hy
        rw [← hs.cell (show b < w.heap.size from hb)] at d0 d1
        have hyj := jobAt hy
        have hyo := HO.out.each y (List.mem_of_getElem? hy)
        have hxo := HO.out.each x (List.mem_of_getElem? hx)
        have hwq := wt_bd HO.out (show q < js.length by omega)
        obtain ⟨g, cap', hv, hgb, hglt, _, _, hgc, _⟩ := own_at hown (by omega)
        injection hv with e1 e2 e3
        subst e1 e3
        have gq := hgc q _ (range_get (show q < q + 1 by omega) (wtV js))
        unfold wtV at gq
        have hl : wk = max 0 (wt js q + y.2.1 - (x.1 - y.1)) := by
          rw [hwk]
          have := lindley (At := atJ js) (Sz := szJ js) q
          rw [hat, hyj.1, hyj.2] at this
          unfold wt
          rw [hat, hyj.1]
          exact this
        obtain ⟨wq, hwq'⟩ : ∃ z, z = wt js q := ⟨_, rfl⟩
        rw [← hwq'] at gq hwq hl
        obtain ⟨x1, x2, x3⟩ := x
        obtain ⟨y1, y2, y3⟩ := y
        obtain ⟨a1, a2, _⟩ := hxo
        obtain ⟨b1, b2, _⟩ := hyo
        simp only at c0 d0 d1 hl a1 a2 b1 b2
        have HL := Lib.hid hl
        clear hc hgc hl hwq' hwk hyj hx hy hat k0 e2
        have hq0 : (0 : Int) < (q : Int) + 1 := by omega
        have hqz : (q : Int) < (js.length : Int) := by omega
        have f1 : 0 ≤ x1 - y1 + 1000000000 := by omega
        have f2 : x1 - y1 ≤ 1000000000 := by omega
        have f3 : wq + y2 ≤ 63000000000 := by omega
        go_wp2
        go_quiet (fail)
        rw [show (if x1 - y1 < wq + y2 then wq + y2 - (x1 - y1) else 0) = wk by rw [HL.out]; split <;> omega]
        have hs2 := since_drewN hs nq
        have hown1 : (wr.drewN nq).ownsRow w.heap.size 3 1 (.slice (some ⟨g, 0, none⟩) (q + 1) cap5) (q + 1) ((List.range (q + 1)).map (wtV js)) := hown
        have hsz2 : w.heap.size ≤ (wr.drewN nq).heap.size := hsz
        clear hown hs hsz c0 d0 d1 gq
        generalize wr.drewN nq = wd at *
        have hown2 := hown1.alloc (Obj.cells #[Value.int .i64 wk] 3)
        go_wp2_with (at_builtin; refine wpList_append_own _ rfl _ _ 30 rfl w.heap.size 3 i0 (.int .i64 0) 1 8 Try.underlying30 Hi0.out Hz0.out Hz1.out Hz2.out rfl (by decide) _ _ _ rfl hown2 ⟨wd.heap.size, 0, none⟩ 1 1 [.int .i64 wk] rfl rfl (one_new _ _ _) (by intro u hu; simp at hu; subst hu; rfl) (by unfold maxLen; omega) (by omega) (by simp; omega) ?_; intro v8 w8 hown8 hg8 _)
        have hs8 := own_grown (hs2.alloc hs2.size (Obj.cells #[Value.int .i64 wk] 3)) hown2 hg8 (by simp; omega)
        go_wp2
        go_roundg (js.length - (q + 1 + 1))
        case measure => go_light; omega
        case rel =>
          go_light
          refine ⟨q + 1 + 1, by omega, rfl, by go_num, hs8, ?_⟩
          rw [range_snoc (q + 1), show wtV js (q + 1) = .int .i64 wk by unfold wtV; rw [← Hwk.out]]
          exact hown8
    · obtain rfl : js.length = k := by omega
      go_wp2
      go_ret2
      exact ⟨hs, _, rfl, hown⟩
set_option maxHeartbeats 4000000 in
theorem Many_bad (A : Option Addr) (cap : Nat) (js : List Job) (w : World) (h : JobsAt w A js) (hlen : js.length ≤ 9223372036854775807) (hno : ¬ JobsOk js) :
    Calls Try.prog 13 #[.slice A js.length cap, .int .i64 1] w (BadPost w) := by
  have hC : Calls Try.prog 14 #[.slice A js.length cap] w fun e w' => w.Since w.heap.size w' ∧ ∃ k : Int, e = .returned (.iface 45 (.int .i64 k)) :=
    (Check_any A cap js w h hlen).mono fun e w' ⟨h1, c, h2, h3⟩ => by
      cases c with
      | none => exact absurd (h3.1 rfl) hno
      | some k => exact ⟨h1, k, h2⟩
  have HC := Lib.hid hC
  clear hC h
  go_enter Try.func13, Try.ntmps13
  go_wp2_with fail
  refine HC.out.mono ?_
  rintro e w1 ⟨hs1, k, rfl⟩
  go_wp2
  go_ret2
  exact ⟨hs1, k, rfl⟩
def stV (js : List Job) (i : Nat) : Value := .int .i64 (S (atJ js) (szJ js) i)
set_option maxHeartbeats 4000000 in
theorem Many_ok (A : Option Addr) (cap : Nat) (js : List Job) (w : World) (h : JobsAt w A js) (hok : JobsOk js) :
    Calls Try.prog 13 #[.slice A js.length cap, .int .i64 1] w (RowPost js.length (stV js) w) := by
  have hfew := hok.few
  have hC : Calls Try.prog 14 #[.slice A js.length cap] w fun e w' => w.Since w.heap.size w' ∧ e = .returned .nilIface :=
    (Check_any A cap js w h (by omega)).mono fun e w' ⟨k1, c, k2, k3⟩ => by
      obtain rfl := k3.2 hok
      exact ⟨k1, k2⟩
  have hmk := run_make_row' (P := Try.prog) 30 3 (.int .i64 0) 8 Try.underlying30 info_int rfl .i64 .i64 1 (by omega) (by omega)
  have hmk1 : ∀ w, (Instr.makeSlice 30 (.int .i64 1) (.int .i64 1)).run Try.prog w = .ok (.slice (some ⟨w.heap.size, 0, none⟩) 1 1) (w.alloc (.cells (madeCells #[Value.int .i64 0] 1) 3)) := hmk
  have HC := Lib.hid hC
  have HJ := Lib.hid h
  have HO := Lib.hid hok
  obtain ⟨i0, hi0, hz0, hz1, hz2⟩ := info_parts info_int
  have Hi0 := Lib.hid hi0
  have Hz0 := Lib.hid hz0
  have Hz1 := Lib.hid hz1
  have Hz2 := Lib.hid hz2
  clear hi0 hz0 hz1 hz2 hC h hok hmk
  go_enter Try.func13, Try.ntmps13
  go_wp2_with fail
  refine HC.out.mono ?_
  rintro e w1 ⟨hs1, rfl⟩
  go_wp2
  clear hmk1
  obtain ⟨fb, hfb⟩ : ∃ fb, fb = w1.heap.size := ⟨_, rfl⟩
  have hfb2 : w.heap.size ≤ fb := by rw [hfb]; exact hs1.size
  have hs2 : w.Since w.heap.size (w1.alloc (Obj.cells (madeCells #[Value.int .i64 0] 1) 3)) := hs1.alloc hs1.size _
  have hr2 : (w1.alloc (Obj.cells (madeCells #[Value.int .i64 0] 1) 3)).rowIs fb 3 1 (fun _ => .int .i64 (F (atJ js) (szJ js) 0)) := by
    rw [hfb]; exact World.rowIs_made w1 _ 1 3
  rw [← hfb]
  generalize w1.alloc (Obj.cells (madeCells #[Value.int .i64 0] 1) 3) = w2 at *
  clear hfb hs1
  go_loopg [8, 30] js.length (fun g v i wr => ∃ k : Nat, k ≤ js.length ∧ g = js.length - k ∧ i = .int .i64 k ∧ w.Since w.heap.size wr ∧ wr.rowIs fb 3 1 (fun _ => .int .i64 (F (atJ js) (szJ js) k)) ∧ wr.ownsRow (fb + 1) 3 1 v k ((List.range k).map (stV js)))
  case atStart => exact ⟨0, Nat.zero_le _, rfl, rfl, hs2, hr2, World.ownsRow_nil _ _ _ _⟩
  case round =>
    clear hs2 hr2
    rename_i v
    obtain ⟨k, hk, rfl, rfl, hs, hrow, hown⟩ := hrel
    obtain ⟨A5, cap5, rfl, hcap5, _⟩ := own_form hown
    have hsz := hs.size
    by_cases hkl : k < js.length
    · have hkz : (k : Int) < (js.length : Int) := by omega
      obtain ⟨b, off, rfl, hb, hc⟩ := HJ.out k hkl
      obtain ⟨x, hx⟩ : ∃ x, js[k]? = some x := ⟨js[k], List.getElem?_eq_getElem hkl⟩
      obtain ⟨c0, c1, c2⟩ := hc k x hx
      rw [← hs.cell (show b < w.heap.size from hb)] at c0 c1 c2
      have hxj := jobAt hx
      have hxo := HO.out.each x (List.mem_of_getElem? hx)
      have hl := jobs_le HO.out
      have hf := F_bd (Jobs_of HO.out) hl.1 hl.2 k (by omega)
      have hf2 : 0 ≤ F (atJ js) (szJ js) k ∧ F (atJ js) (szJ js) k ≤ 61000000000 := by omega
      have hS : S (atJ js) (szJ js) k = max (F (atJ js) (szJ js) k) x.1 := by rw [← hxj.1]; rfl
      have hF : F (atJ js) (szJ js) (k + 1) = max (F (atJ js) (szJ js) k) x.1 + x.2.1 := by rw [F_succ, hS, hxj.2]
      obtain ⟨fk, hfk⟩ : ∃ z, z = F (atJ js) (szJ js) k := ⟨_, rfl⟩
      rw [← hfk] at hf2 hS hF hrow
      have HS := Lib.hid hS
      have HF := Lib.hid hF
      obtain ⟨x1, x2, x3⟩ := x
      simp only at c0 c1 c2 HS HF
      obtain ⟨a1, a2, _⟩ := hxo
      simp only at a1 a2
      clear hc hx hxj hl hf hfk hS hF
      go_upto_region 12 with fail
      have hsA := hs.alloc hs.size (Obj.cells #[Value.int .i64 x1, Value.int .i64 x2, Value.int .i64 x3] 33)
      have hrA := hrow.alloc (Obj.cells #[Value.int .i64 x1, Value.int .i64 x2, Value.int .i64 x3] 33)
      have hoA := hown.alloc (Obj.cells #[Value.int .i64 x1, Value.int .i64 x2, Value.int .i64 x3] 33)
      have e0 : (wr.alloc (Obj.cells #[Value.int .i64 x1, Value.int .i64 x2, Value.int .i64 x3] 33)).cell? ⟨wr.heap.size, 0, none⟩ = some (.int .i64 x1) := by simp
      have e1 : (wr.alloc (Obj.cells #[Value.int .i64 x1, Value.int .i64 x2, Value.int .i64 x3] 33)).cell? ⟨wr.heap.size, 1, none⟩ = some (.int .i64 x2) := by simp
      obtain ⟨bx, hbx⟩ : ∃ bx, bx = wr.heap.size := ⟨_, rfl⟩
      have hbf : fb < bx := by rw [hbx]; exact hrow.lt
      rw [← hbx] at e0 e1 ⊢
      clear hs hrow hown hsz c0 c1 c2 hbx
      generalize wr.alloc (Obj.cells #[Value.int .i64 x1, Value.int .i64 x2, Value.int .i64 x3] 33) = wo at *
      have r0 := hrA.cell (i := 0) (by omega)
      have r1 := hrA.frozen 0
      go_wp2
      go_loopg [11, 36] 1 (fun g s11 i wi => ∃ j m : Nat, j ≤ 1 ∧ g = 1 - j ∧ i = .int .i64 j ∧ s11 = .int .i64 0 ∧ wi = wo.drewN m)
      case atStart => exact ⟨0, 0, by omega, rfl, rfl, rfl, rfl⟩
      case round =>
        obtain ⟨j, m, hj, rfl, rfl, rfl, rfl⟩ := hrel
        by_cases hj0 : j < 1
        · obtain rfl : j = 0 := by omega
          have r0' : (wo.drewN m).cell? ⟨fb, 0, none⟩ = some (.int .i64 fk) := r0
          go_wp2
          go_quiet (fail)
          go_wp2
          go_roundg 0
          case measure => omega
          case rel => exact ⟨1, _, by omega, rfl, rfl, rfl, rfl⟩
        · obtain rfl : j = 1 := by omega
          have hsB : w.Since w.heap.size (wo.drewN m) := since_drewN hsA m
          have hrB : (wo.drewN m).rowIs fb 3 1 (fun _ => .int .i64 fk) := hrA
          have hoB : (wo.drewN m).ownsRow (fb + 1) 3 1 (.slice A5 k cap5) k ((List.range k).map (stV js)) := hoA
          have e0' : (wo.drewN m).cell? ⟨bx, 0, none⟩ = some (.int .i64 x1) := e0
          have e1' : (wo.drewN m).cell? ⟨bx, 1, none⟩ = some (.int .i64 x2) := e1
          clear hsA hrA hoA e0 e1 r0 r1
          generalize wo.drewN m = wp at *
          have r0 := hrB.cell (i := 0) (by omega)
          have r1 := hrB.frozen 0
          go_wp2
          go_quiet (fail)
          obtain ⟨z, hz⟩ : ∃ z, z = max fk x1 := ⟨_, rfl⟩
          have hz2 : 0 ≤ z ∧ z ≤ 61000000000 := by omega
          first
            | rw [show (if x1 < fk then fk else x1) = z by rw [hz]; split <;> omega]
            | rw [show (if fk < x1 then x1 else fk) = z by rw [hz]; split <;> omega]
          rw [← hz] at HS HF
          have hsC := since_drewN hsB nq
          have hrC : (wp.drewN nq).rowIs fb 3 1 (fun _ => .int .i64 fk) := hrB
          have hoC : (wp.drewN nq).ownsRow (fb + 1) 3 1 (.slice A5 k cap5) k ((List.range k).map (stV js)) := hoB
          have e1C : (wp.drewN nq).cell? ⟨bx, 1, none⟩ = some (.int .i64 x2) := e1'
          clear hsB hrB hoB e0' e1' r0 r1 hz
          generalize wp.drewN nq = wq at *
          have r0 := hrC.cell (i := 0) (by omega)
          have r1 := hrC.frozen 0
          have hsD := hsC.setCell (a := ⟨fb, 0, none⟩) hfb2 (.int .i64 (z + x2))
          have hrD := hrC.set 0 (.int .i64 (z + x2))
          have hoD := own_setOther hoC (a := ⟨fb, 0, none⟩) (own_below hoC (by show fb < fb + 1; omega)) (.int .i64 (z + x2))
          go_upto_region 20 with fail
          clear e1C r0 r1 hsC hrC hoC
          generalize wq.setCell ⟨fb, 0, none⟩ (.int .i64 (z + x2)) = wn at *
          have hfn := hrD.lt
          have hown2 := hoD.alloc (Obj.cells #[Value.int .i64 z] 3)
          go_wp2_with (at_builtin; refine wpList_append_own _ rfl _ _ 30 rfl (fb + 1) 3 i0 (.int .i64 0) 1 8 Try.underlying30 Hi0.out Hz0.out Hz1.out Hz2.out rfl (by decide) _ _ _ rfl hown2 ⟨wn.heap.size, 0, none⟩ 1 1 [.int .i64 z] rfl rfl (one_new _ _ _) (by intro u hu; simp at hu; subst hu; rfl) (by unfold maxLen; omega) (by omega) (by simp; omega) ?_; intro v8 w8 hown8 hg8 _)
          have hg9 := own_grown (World.Since.refl (fb + 1) (wn.alloc (Obj.cells #[Value.int .i64 z] 3))) hown2 hg8 (by simp; omega)
          have hrE := (hrD.alloc (Obj.cells #[Value.int .i64 z] 3)).of_block (hg9.block fb (by omega))
          have hsE := (hsD.alloc hsD.size (Obj.cells #[Value.int .i64 z] 3)).trans (since_mono hg9 (show w.heap.size ≤ fb + 1 by omega))
          go_wp2
          go_roundg (js.length - (k + 1))
          case measure => go_light; omega
          case rel =>
            go_light
            refine ⟨k + 1, by omega, rfl, by go_num, hsE, hrE.congr (fun i (hi : i < 1) => ?_), ?_⟩
            · rw [if_pos (by omega), HF.out]
            · rw [range_snoc, show stV js k = .int .i64 z by unfold stV; rw [HS.out]]
              exact hown8
    · obtain rfl : js.length = k := by omega
      go_wp2
      go_ret2
      exact ⟨hs, _, rfl, own_base hown (by omega)⟩
end Go.Proofs.Ytekjddcckkelnaa
