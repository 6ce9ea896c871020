/- path.Run: the walk. -/
import Derived.Test.YtekjddcckkelnaaW5
namespace Go.Proofs.Ytekjddcckkelnaa
open Go.RowKit PathM

theorem fine_len {At : Nat → Int} {n : Nat} {now : Int} : ∀ (o : List (Nat × Int × Int)) (lo : Int), (∀ p ∈ o, p.1 < n ∧ p.2.1 < p.2.2 ∧ At p.1 ≤ p.2.1 ∧ 0 ≤ p.2.1 ∧ p.2.2 ≤ now) → (o.Pairwise fun p q => p.2.2 ≤ q.2.1) → (∀ p ∈ o, lo ≤ p.2.1) → lo ≤ now → (o.length : Int) ≤ now - lo
  | [], lo, _, _, _, h => by simp; omega
  | p :: o, lo, he, hp, hl, h => by
    have h1 := he p (List.mem_cons_self ..)
    have h2 := hl p (List.mem_cons_self ..)
    have hp' := List.pairwise_cons.1 hp
    have := fine_len o p.2.2 (fun q hq => he q (List.mem_cons_of_mem _ hq)) hp'.2 (fun q hq => hp'.1 q hq) h1.2.2.2.2
    rw [List.length_cons]; omega
theorem own_base {w : World} {base base' : Nat} {e : TypeId} {size : Nat} {v : Value} {n : Nat} {xs : List Value} (h : w.ownsRow base e size v n xs) (hb : base' ≤ base) : w.ownsRow base' e size v n xs := by
  refine ⟨h.1, ?_⟩
  rcases h.2 with h0 | ⟨g, cap, cur, hv, hle, rest⟩
  · exact .inl h0
  · exact .inr ⟨g, cap, cur, hv, by omega, rest⟩
theorem now_bd {js : List Job} (h : JobsOk js) {s : St} {a : Int} (ha : a = if s.wait = [] then max s.now (atJ js s.next) else s.now) (hm : s.next < js.length ∨ s.wait ≠ []) (_h1 : s.next ≤ js.length) (h2 : 0 ≤ s.now) (h3 : s.now ≤ 61000000000) : 0 ≤ a ∧ a ≤ 61000000000 := by
  have hmem : ∀ i, i < js.length → jobOk (js.getD i (0, 0, 0)) := fun i hi => by
    rw [List.getD_eq_getElem?_getD, List.getElem?_eq_getElem hi]; exact h.each _ (List.getElem_mem _)
  by_cases hw : s.wait = []
  · rw [if_pos hw] at ha
    have : s.next < js.length := hm.resolve_right (fun h => h hw)
    have h4 : 0 ≤ atJ js s.next ∧ atJ js s.next ≤ 1000000000 := (hmem _ this).1
    omega
  · rw [if_neg hw] at ha
    omega
structure Bounds (js : List Job) (s : St) : Prop where
  next : s.next ≤ js.length
  wait : s.wait.length ≤ 60
  now0 : 0 ≤ s.now
  now1 : s.now ≤ 61000000000
  out : s.out.length ≤ 61000000000
theorem jobs_le {js : List Job} (h : JobsOk js) : (∀ i, i < js.length → atJ js i ≤ 1000000000) ∧ ∀ i, i < js.length → szJ js i ≤ 1000000000 := by
  have hmem : ∀ i, i < js.length → jobOk (js.getD i (0, 0, 0)) := fun i hi => by
    rw [List.getD_eq_getElem?_getD, List.getElem?_eq_getElem hi]; exact h.each _ (List.getElem_mem _)
  exact ⟨fun i hi => (hmem i hi).1.2, fun i hi => (hmem i hi).2.1.2⟩
theorem bounds {js : List Job} {pre : Bool} {best : (Nat → Int) → List Nat → Nat → Prop} (h : JobsOk js) {s : St} (hR : PathM.Reach (atJ js) (szJ js) js.length pre best s) : Bounds js s := by
  have hJ := Jobs_of h
  have I := hR.inv hJ
  have hl := jobs_le h
  have hf := F_bd hJ hl.1 hl.2 s.next I.next_le
  have hw := lsum_nonneg (fun i hi => Int.le_of_lt (I.lpos i hi))
  have he := I.eF
  have hfew := h.few
  have hn := I.next_le
  have hnn := PermM.nodup_le s.next s.wait I.nodup I.wait_lt
  have ho := fine_len s.out 0 I.fine.each I.fine.row (fun p hp => (I.fine.each p hp).2.2.2.1) I.now0
  exact ⟨hn, by omega, I.now0, by omega, by omega⟩
theorem natsL_map (W : List Nat) : (natsL W).map (Value.int .i64) = W.map natV := by unfold natsL natV; rw [List.map_map]; rfl
theorem W_lt {js : List Job} {pre : Bool} {best : (Nat → Int) → List Nat → Nat → Prop} (h : JobsOk js) {s : St} (hR : PathM.Reach (atJ js) (szJ js) js.length pre best s) {q : Nat} (hq : q ≤ js.length) {W : List Nat} (hW : W = s.wait ++ List.range' s.next (q - s.next)) : ∀ i ∈ W, i < js.length := fun i hi => by
  have I := hR.inv (Jobs_of h)
  rw [hW] at hi
  rcases List.mem_append.1 hi with hi | hi
  · have := I.wait_lt i hi; have := I.next_le; omega
  · have := List.mem_range'_1.1 hi; omega
theorem W_ne {js : List Job} {s : St} {a : Int} (ha : a = if s.wait = [] then max s.now (atJ js s.next) else s.now) (hm : s.next < js.length ∨ s.wait ≠ []) {q : Nat} (hq : s.next ≤ q) {W : List Nat} (hW : W = s.wait ++ List.range' s.next (q - s.next)) (hst : q < js.length → a < atJ js q) : 0 < W.length := by
  by_cases hw : s.wait = []
  · rw [if_pos hw] at ha
    have h1 : s.next < js.length := hm.resolve_right (fun h => h hw)
    have h2 : s.next ≠ q := fun e => by
      have := hst (by omega)
      rw [← e] at this
      omega
    rw [hW, List.length_append, List.length_range']; omega
  · rw [hW, List.length_append]
    have := List.length_pos_iff.2 hw
    omega
theorem step_of {js : List Job} {rule : Int} {s : St} {a b : Int} {q on : Nat} {W : List Nat} (hm : s.next < js.length ∨ s.wait ≠ []) (ha : a = if s.wait = [] then max s.now (atJ js s.next) else s.now) (hq1 : s.next ≤ q) (hq2 : q ≤ js.length) (hc : ∀ i, s.next ≤ i → i < q → atJ js i ≤ a) (hst : q < js.length → a < atJ js q)
    (hW : W = s.wait ++ List.range' s.next (q - s.next)) (hOn : on ∈ W ∧ (s.on = none ∨ preB rule = true → BestOf rule js s.left W on) ∧ ∀ i, s.on = some i → preB rule = false → on = i) (hb : b = if preB rule = true ∧ q < js.length then min (a + s.left on) (atJ js q) else a + s.left on) :
    Step (atJ js) js.length (preB rule) (BestOf rule js) s (q - s.next) on a b := by
  have e : s.next + (q - s.next) = q := by omega
  refine ⟨hm, ha, by omega, by rw [e]; exact hc, by rw [e]; exact hst, by rw [← hW]; exact hOn.1, by rw [← hW]; exact hOn.2.1, hOn.2.2, by rw [e]; exact hb⟩
theorem step_facts {js : List Job} {pre : Bool} {best : (Nat → Int) → List Nat → Nat → Prop} (h : JobsOk js) {s : St} (hR : PathM.Reach (atJ js) (szJ js) js.length pre best s) {q on : Nat} {a b : Int} (hst : Step (atJ js) js.length pre best s (q - s.next) on a b) (hq1 : s.next ≤ q) (hq2 : q ≤ js.length) :
    0 < s.left on ∧ a < b ∧ b ≤ a + s.left on ∧ a + s.left on ≤ 61000000000 ∧ on < js.length := by
  have hJ := Jobs_of h
  have M := (hR.inv hJ).mid hJ hst
  have hl := jobs_le h
  have e : s.next + (q - s.next) = q := by omega
  have h1 := M.eF
  have h2 := lsum_mem (fun i hi => Int.le_of_lt (M.lpos i hi)) hst.hon
  have h3 := M.on_lt
  rw [e] at h1 h3
  have hf := F_bd hJ hl.1 hl.2 q hq2
  have := h.few
  exact ⟨M.lpos on hst.hon, M.ab, M.bl, by omega, by omega⟩
theorem info_piece : (Try.prog.info? 36).map (fun i => (i.zero, i.size, i.bytes)) = some (some (.agg #[.int .i64 0, .int .i64 0, .int .i64 0]), 3, 24) := by kernel_rfl
theorem piece_new (w : World) (a b c : Value) (t : TypeId) : ∀ (j : Nat) (x : Value), [a, b, c][j]? = some x → (w.alloc (.cells #[a, b, c] t)).cell? ((⟨w.heap.size, 0, none⟩ : Addr).add j) = some x := by
  intro j x hx
  rw [show (⟨w.heap.size, 0, none⟩ : Addr).add j = ⟨w.heap.size, j, none⟩ by unfold Addr.add; split <;> simp_all, World.cell?_alloc_at _ _ _ _ rfl]
  simpa using hx
/-- the last piece goes on -/
def merges (out : List (Nat × Int × Int)) (on : Nat) (a : Int) : Bool :=
  match out.getLast? with
  | some p => decide (p.1 = on ∧ p.2.2 = a)
  | none => false
theorem push_new {out : List (Nat × Int × Int)} {on : Nat} {a b : Int} (h : false = merges out on a) : push out on a b = out ++ [(on, a, b)] := by
  unfold merges at h
  unfold push
  cases hl : out.getLast? with
  | none => rfl
  | some p =>
    rw [hl] at h
    simp only at h ⊢
    rw [if_neg (of_decide_eq_false h.symm)]
theorem natsL_len (W : List Nat) : (natsL W).length = W.length := by unfold natsL; simp
theorem natsL_filter (W : List Nat) (on : Nat) : (natsL W).filter (fun x => !(x == (on : Int))) = natsL (W.filter fun i => !(i == on)) := by
  unfold natsL
  rw [List.filter_map]
  congr 1
  apply List.filter_congr
  intro x _
  simp only [Function.comp]
  congr 1
  rw [Bool.eq_iff_iff]
  simp
  omega
theorem holds_nats {f : Nat → Value} {W : List Nat} (h : ∀ (j : Nat) (x : Value), (W.map natV)[j]? = some x → f j = x) : HoldsI f (natsL W) := fun i x hx => by
  unfold natsL at hx
  rw [List.getElem?_map] at hx
  cases hy : W[i]? with
  | none => rw [hy] at hx; cases hx
  | some y =>
    rw [hy] at hx
    injection hx with hx
    rw [← hx]
    exact h i _ (by rw [List.getElem?_map, hy]; rfl)
theorem del_any {po : Nat} {on : Nat} {W : World} (h : W.cell? ⟨po, 0, none⟩ = some (.int .i64 (on : Nat))) : Asks 21 #[.pointer (some ⟨po, 0, none⟩)] (fun x => x == (on : Int)) W := by
  intro x
  show Calls Try.prog 21 #[.int .i64 x, .pointer (some ⟨po, 0, none⟩)] W _
  go_enter Try.func21, Try.ntmps21
  go_wp2
  go_ret
  exact ⟨rfl, rfl⟩
set_option maxHeartbeats 8000000 in
set_option maxRecDepth 100000 in
theorem Run_ok (A : Option Addr) (cap : Nat) (js : List Job) (rule : Int) (w : World) (h : JobsAt w A js) (hok : JobsOk js) (h1 : 1 ≤ rule) (h6 : rule ≤ 6) :
    Calls Try.prog 8 #[.slice A js.length cap, .int .i64 rule] w (RunPost js rule w) := by
  have hfew := hok.few
  have hC : ∀ W, w.Since w.heap.size W → Calls Try.prog 14 #[.slice A js.length cap] W fun e w' => W.Since W.heap.size w' ∧ e = .returned .nilIface := fun W hs =>
    (Check_any A cap js W (h.since (Nat.le_refl _) hs) (by omega)).mono fun e w' ⟨k1, c, k2, k3⟩ => by
      obtain rfl := k3.2 hok
      exact ⟨k1, k2⟩
  have HC := Lib.hid hC
  have hmk := run_make_row' (P := Try.prog) 30 3 (.int .i64 0) 8 Try.underlying30 info_int rfl .i64 .i64 js.length (by omega) (by omega)
  have HJ := Lib.hid h
  have HO := Lib.hid hok
  clear hC h hok
  go_enter Try.func8, Try.ntmps8
  go_wp2_with fail
  refine (HC.out _ (((World.Since.refl _ _).alloc (Nat.le_refl _) _).alloc (by simp) _)).mono ?_
  rintro e w1 ⟨hs1, rfl⟩
  have hsz : w.heap.size + 2 ≤ w1.heap.size := by have := hs1.size; simpa using this
  have hs0 : w.Since w.heap.size w1 := since_join (((World.Since.refl _ _).alloc (Nat.le_refl _) _).alloc (by simp) _) hs1
  have c0 : w1.cell? ⟨w.heap.size, 0, none⟩ = some (.slice A js.length cap) := by
    rw [hs1.cell (show w.heap.size < _ by simp; omega)]; simp
  have c1 : w1.cell? ⟨w.heap.size + 1, 0, none⟩ = some (.int .i64 rule) := by
    rw [hs1.cell (by simp)]; simp
  have n1 : w.heap.size < w1.heap.size := by omega
  have n2 : w.heap.size < w1.heap.size + 1 := by omega
  have n3 : w.heap.size + 1 < w1.heap.size := by omega
  have n4 : w.heap.size + 1 < w1.heap.size + 1 := by omega
  have d1 : decide (rule < 1) = false := decide_eq_false (by omega)
  have d2 : decide (6 < rule) = false := decide_eq_false (by omega)
  clear hs1
  go_wp2
  clear hmk
  obtain ⟨pl, hpl⟩ : ∃ pl, pl = w.heap.size := ⟨_, rfl⟩
  obtain ⟨pr, hpr⟩ : ∃ pr, pr = w.heap.size + 1 := ⟨_, rfl⟩
  obtain ⟨bl, hbl⟩ : ∃ bl, bl = w1.heap.size := ⟨_, rfl⟩
  obtain ⟨pf, hpf⟩ : ∃ pf, pf = w1.heap.size + 1 := ⟨_, rfl⟩
  have hV0 : Vars ((w1.alloc (Obj.cells (madeCells #[Value.int IntKind.i64 0] js.length) 3)).alloc (Obj.cells #[Value.slice (some { block := bl, off := 0 }) js.length js.length] 30)) pr pl pf rule A cap js bl (fun j => if j < 0 then szJ js j else 0) := by
    subst hpl hpr hbl hpf
    have hsA : w.Since w.heap.size ((w1.alloc (Obj.cells (madeCells #[Value.int IntKind.i64 0] js.length) 3)).alloc (Obj.cells #[Value.slice (some { block := w1.heap.size, off := 0 }) js.length js.length] 30)) := (hs0.alloc hs0.size _).alloc (by simp; omega) _
    refine ⟨?_, ?_, ?_, HJ.out.since (Nat.le_refl _) hsA, (World.rowIs_made w1 _ _ 3).alloc _⟩
    · rw [World.cell?_alloc_lt _ _ _ (by simp; omega), World.cell?_alloc_lt _ _ _ (by simpa using n3)]; exact c1
    · rw [World.cell?_alloc_lt _ _ _ (by simp; omega), World.cell?_alloc_lt _ _ _ (by simpa using n1)]; exact c0
    · simp
  have hs2 : w.Since w.heap.size ((w1.alloc (Obj.cells (madeCells #[Value.int IntKind.i64 0] js.length) 3)).alloc (Obj.cells #[Value.slice (some { block := bl, off := 0 }) js.length js.length] 30)) := (hs0.alloc hs0.size _).alloc (by simp; omega) _
  have HA : Hid (w.heap.size ≤ pl ∧ w.heap.size ≤ pr ∧ w.heap.size ≤ pf ∧ w.heap.size ≤ bl ∧ pl < pr ∧ pr < bl ∧ bl < pf ∧ pf = w1.heap.size + 1) := Lib.hid (by omega)
  rw [← hpr, ← hpl, ← hpf, ← hbl]
  clear hpl hpr hpf hbl n1 n2 n3 n4 c0 c1 hs0 hsz
  generalize (w1.alloc (Obj.cells (madeCells #[Value.int IntKind.i64 0] js.length) 3)).alloc (Obj.cells #[Value.slice (some { block := bl, off := 0 }) js.length js.length] 30) = w2 at *
  go_loopg [34] js.length (fun g i wr => ∃ k : Nat, k ≤ js.length ∧ g = js.length - k ∧ i = .int .i64 k ∧ w.Since w.heap.size wr ∧ Vars wr pr pl pf rule A cap js bl (fun j => if j < k then szJ js j else 0))
  case atStart => exact ⟨0, Nat.zero_le _, rfl, rfl, hs2, hV0⟩
  case round =>
    clear hs2 hV0
    obtain ⟨k, hk, rfl, rfl, hs, hV⟩ := hrel
    by_cases hkl : k < js.length
    · have hkz : (k : Int) < (js.length : Int) := by omega
      obtain ⟨b, off, rfl, hb, hc⟩ := HJ.out k hkl
      obtain ⟨x, hx⟩ : ∃ x, js[k]? = some x := ⟨js[k], List.getElem?_eq_getElem hkl⟩
      obtain ⟨c0, c1, c2⟩ := hc k x hx
      rw [← hs.cell (show b < w.heap.size from hb)] at c0 c1 c2
      have ex : szJ js k = x.2.1 := by unfold szJ; rw [List.getD_eq_getElem?_getD, hx]; rfl
      obtain ⟨x1, x2, x3⟩ := x
      simp only at c0 c1 c2 ex
      have b1 := hV.f
      have b2 := hV.row.cell hkl
      have b3 := hV.row.frozen k
      have hlt1 := World.block_lt_of_cell? _ _ b1
      have hlt2 := hV.row.lt
      have Ex := Lib.hid ex
      have HV := Lib.hid hV
      clear hx hc ex hV
      simp only at hlt1
      go_wp2
      go_roundg (js.length - (k + 1))
      case measure => go_light; omega
      case rel =>
        go_light
        refine ⟨k + 1, by omega, rfl, by go_num, ?_, ?_⟩
        · exact (hs.setCell (a := ⟨bl, k, none⟩) HA.out.2.2.2.1 _).alloc (by simpa [World.setCell] using hs.size) _
        · have := HV.out.put k x2 (by have := HA.out; omega) (HJ.out.since (Nat.le_refl _) (hs.setCell (a := ⟨bl, k, none⟩) HA.out.2.2.2.1 _))
          rw [← Ex.out] at this ⊢
          exact (this.left (fun j _ => upd_sz)).since ((World.Since.refl _ _).alloc (Nat.le_refl _) _)
    · obtain rfl : js.length = k := by omega
      go_wp2
      have hV2 : Vars wr pr pl pf rule A cap js bl (szJ js) := hV.left (fun j hj => if_pos hj)
      obtain ⟨po, hpo⟩ : ∃ po, po = wr.heap.size := ⟨_, rfl⟩
      have l1 := World.block_lt_of_cell? _ _ hV2.r
      have l2 := World.block_lt_of_cell? _ _ hV2.l
      have l3 := World.block_lt_of_cell? _ _ hV2.f
      have l4 := hV2.row.lt
      simp only at l1 l2 l3
      have hA := HA.out
      have hss := hs.size
      have HP : Places w pl pr pf po bl (po + 1) := ⟨by omega, by omega, by omega⟩
      have hs4 : wr.Since wr.heap.size (wr.alloc (Obj.cells #[Value.int IntKind.i64 (-1)] 3)) := (World.Since.refl _ _).alloc (Nat.le_refl _) _
      have hI0 : RunIs w pl pr pf po rule A cap js bl (po + 1) (szJ js) (-1) [] [] (.slice none 0 0) (.slice none 0 0) (wr.alloc (Obj.cells #[Value.int IntKind.i64 (-1)] 3)) :=
        ⟨since_join hs hs4, hV2.since hs4, by rw [hpo]; exact World.rowIs_alloc wr #[Value.int .i64 (-1)] 3 _ (fun i (hi : i < 1) => by
          obtain rfl : i = 0 := by omega
          rfl), World.ownsRow_nil _ _ _ _, World.ownsRow_nil _ _ _ _⟩
      rw [← hpo]
      have HPh := Lib.hid HP
      clear hA hss HP hs4 l1 l2 l3 l4 hV hV2 HA hs
      generalize wr.alloc (Obj.cells #[Value.int IntKind.i64 (-1)] 3) = w4 at *
      clear hpo
      go_loopg [10, 11, 12, 14] (mu (atJ js) js.length (PathM.start (szJ js))) (fun g v10 v11 v12 v14 wr => ∃ s : St, Hid (PathM.Reach (atJ js) (szJ js) js.length (preB rule) (BestOf rule js) s) ∧ g = mu (atJ js) js.length s ∧ v11 = .int .i64 s.now ∧ v12 = .int .i64 (s.next : Nat) ∧ RunIs w pl pr pf po rule A cap js bl (po + 1) s.left (onV s.on) s.wait s.out v10 v14 wr)
      case atStart => exact ⟨PathM.start (szJ js), Lib.hid .start, rfl, rfl, rfl, hI0⟩
      case round =>
        clear hI0
        rename_i v14
        obtain ⟨s, hR, rfl, rfl, rfl, hI⟩ := hrel
        obtain ⟨A14, cap14, rfl, hcap14, _⟩ := own_form hI.wait
        obtain ⟨A10, cap10, rfl, hcap10, _⟩ := own_form hI.out
        have B := bounds HO.out hR.out
        have B1 := B.next
        have B2 := B.wait
        have B3 := B.now0
        have B4 := B.now1
        have B5 := B.out
        have b1 := hI.vars.r
        have b2 := hI.vars.l
        clear B
        by_cases hmore : s.next < js.length ∨ s.wait ≠ []
        · have hmw : ¬ s.next < js.length → 0 < s.wait.length := fun h => List.length_pos_iff.2 (hmore.resolve_left h)
          have Hmw := Lib.hid hmw
          have Hmore := Lib.hid hmore
          clear hmw hmore
          go_upto_region 15 with fail
          go_cut [53] (fun v wx => v = .bool true ∧ wr = wx)
          case first => as_aux_lemma =>
            by_cases hn : s.next < js.length
            · have hnz : (s.next : Int) < (js.length : Int) := by omega
              go_wp2
              go_meet
              case rel => exact ⟨rfl, rfl⟩
            · have hnf : decide (s.next < js.length) = false := decide_eq_false hn
              have hw0 := Hmw.out hn
              have hwz : (0 : Int) < (s.wait.length : Int) := by omega
              go_wp2
              go_meet
              case rel => exact ⟨rfl, rfl⟩
          case rest =>
            obtain ⟨rfl, rfl⟩ := hcut
            obtain ⟨a, ha⟩ : ∃ a, a = if s.wait = [] then max s.now (atJ js s.next) else s.now := ⟨_, rfl⟩
            have Ha := Lib.hid ha
            clear ha
            go_upto_if 56 with fail
            go_cut [11] (fun v wx => v = .int .i64 a ∧ wr = wx)
            case first => as_aux_lemma =>
              by_cases hw : s.wait = []
              · have hwb : ((s.wait.length : Int) == 0) = true := by simp [hw]
                have Hw := Lib.hid hw
                have hnn : s.next < js.length := Hmore.out.resolve_right (fun h => h hw)
                clear hw
                have hnz : (s.next : Int) < (js.length : Int) := by omega
                obtain ⟨b, off, rfl, hb, hc⟩ := HJ.out s.next hnn
                obtain ⟨x, hx⟩ : ∃ x, js[s.next]? = some x := ⟨js[s.next], List.getElem?_eq_getElem hnn⟩
                obtain ⟨c0, _, _⟩ := hc s.next x hx
                rw [← hI.since.cell (show b < w.heap.size from hb)] at c0
                have ex : atJ js s.next = x.1 := by unfold atJ; rw [List.getD_eq_getElem?_getD, hx]; rfl
                have Ex := Lib.hid ex
                generalize x.1 = x1 at *
                clear hx hc ex
                go_wp2
                all_goals
                  go_meet
                  case rel => exact ⟨by rw [Ha.out, if_pos Hw.out, Ex.out]; congr 1; omega, rfl⟩
              · have hwb : ((s.wait.length : Int) == 0) = false := by simpa using hw
                go_wp2
                go_meet
                case rel => exact ⟨by rw [Ha.out, if_neg hw], rfl⟩
            case rest =>
              obtain ⟨rfl, rfl⟩ := hcut
              have ha0 : 0 ≤ a ∧ a ≤ 61000000000 := now_bd HO.out Ha.out Hmore.out B1 B3 B4
              obtain ⟨i0, hi0, hz0, hz1, hz2⟩ := info_parts info_int
              have Hi0 := Lib.hid hi0
              have Hz0 := Lib.hid hz0
              have Hz1 := Lib.hid hz1
              have Hz2 := Lib.hid hz2
              clear hi0 hz0 hz1 hz2
              have hI0 := hI
              go_wp2
              go_loopg [12, 14] (js.length - s.next) (fun g v12 v14 wr => ∃ q : Nat, s.next ≤ q ∧ q ≤ js.length ∧ g = js.length - q ∧ v12 = .int .i64 (q : Nat) ∧ Hid (∀ i, s.next ≤ i → i < q → atJ js i ≤ a) ∧ RunIs w pl pr pf po rule A cap js bl (po + 1) s.left (onV s.on) (s.wait ++ List.range' s.next (q - s.next)) s.out (Value.slice A10 s.out.length cap10) v14 wr)
              case atStart => exact ⟨s.next, Nat.le_refl _, B1, rfl, rfl, Lib.hid (fun i h1 h2 => by omega), by rw [Nat.sub_self]; simpa using hI⟩
              case round =>
                clear hI hI0 b1 b2 hcap14
                obtain ⟨q, hq1, hq2, rfl, rfl, hcame, hI⟩ := hrel
                obtain ⟨A14', cap14', rfl, hcap14, _⟩ := own_form hI.wait
                have b1 := hI.vars.r
                have b2 := hI.vars.l
                have hwl : (s.wait ++ List.range' s.next (q - s.next)).length ≤ 120 := by
                  rw [List.length_append, List.length_range']; omega
                have hsnoc : (s.wait ++ List.range' s.next (q - s.next)) ++ [q] = s.wait ++ List.range' s.next (q + 1 - s.next) := by
                  rw [List.append_assoc, show q + 1 - s.next = (q - s.next) + 1 by omega, List.range'_concat, show s.next + 1 * (q - s.next) = q by omega]
                obtain ⟨W, hW⟩ : ∃ W, W = s.wait ++ List.range' s.next (q - s.next) := ⟨_, rfl⟩
                rw [← hW] at hI hwl hsnoc hcap14 ⊢
                have Hsnoc := Lib.hid hsnoc
                have HW := Lib.hid hW
                clear hsnoc hW
                by_cases hc : q < js.length ∧ atJ js q ≤ a
                · obtain ⟨hn, hle'⟩ := hc
                  have hnz : (q : Int) < (js.length : Int) := by omega
                  obtain ⟨b, off, rfl, hb, hc⟩ := HJ.out q hn
                  obtain ⟨x, hx⟩ : ∃ x, js[q]? = some x := ⟨js[q], List.getElem?_eq_getElem hn⟩
                  obtain ⟨c0, _, _⟩ := hc q x hx
                  rw [← hI.since.cell (show b < w.heap.size from hb)] at c0
                  have ex : atJ js q = x.1 := by unfold atJ; rw [List.getD_eq_getElem?_getD, hx]; rfl
                  have Ex := Lib.hid ex
                  generalize x.1 = x1 at *
                  clear hx hc ex
                  have hle : x1 ≤ a := by rw [← Ex.out]; exact hle'
                  clear hle'
                  have hI2 := hI.later ((World.Since.refl _ _).alloc (Nat.le_refl _) (Obj.cells #[Value.int .i64 (q : Nat)] 3))
                  have hown := hI2.wait
                  have hB : po + 1 ≤ wr.heap.size := by have := hI.on.lt; omega
                  have hB2 : po + 1 ≤ (wr.alloc (Obj.cells #[Value.int .i64 (q : Nat)] 3)).heap.size := by simp; omega
                  go_wp2_with (at_builtin; refine wpList_append_own _ rfl _ _ 30 rfl (po + 1) 3 i0 (.int .i64 0) 1 8 Try.underlying30 Hi0.out Hz0.out Hz1.out Hz2.out rfl (by decide) _ _ _ rfl hown ⟨wr.heap.size, 0, none⟩ 1 1 [.int .i64 (q : Nat)] rfl rfl (one_new _ _ _) (by intro u hu; simp at hu; subst hu; rfl) (by unfold maxLen; omega) (by omega) hB2 ?_; intro v8 w8 hown8 hg8 _)
                  have hI3 := hI2.waitGrown HPh.out HJ.out (wait' := W ++ [q]) (v14' := v8) (by rw [List.length_append, List.map_append]; exact hown8) hg8
                  clear hown8 hown hI2
                  go_wp2
                  go_roundg (js.length - (q + 1))
                  case measure => go_light; omega
                  case rel =>
                    go_light
                    refine ⟨q + 1, by omega, by omega, rfl, by go_num, Lib.hid (fun i h1 h2 => ?_), by rw [← Hsnoc.out]; exact hI3⟩
                    by_cases e : i = q
                    · subst e; rw [Ex.out]; exact hle
                    · exact hcame.out i h1 (by omega)
                · have Hstop : Hid (q < js.length → a < atJ js q) := Lib.hid (fun h => by have := fun t => hc ⟨h, t⟩; omega)
                  clear hc
                  go_upto_region 18 with fail
                  go_cut [76] (fun v wx => v = .bool false ∧ wr = wx)
                  case first => as_aux_lemma =>
                    by_cases hn : q < js.length
                    · have hnz : (q : Int) < (js.length : Int) := by omega
                      obtain ⟨b, off, rfl, hb, hc⟩ := HJ.out q hn
                      obtain ⟨x, hx⟩ : ∃ x, js[q]? = some x := ⟨js[q], List.getElem?_eq_getElem hn⟩
                      obtain ⟨c0, _, _⟩ := hc q x hx
                      rw [← hI.since.cell (show b < w.heap.size from hb)] at c0
                      have ex : atJ js q = x.1 := by unfold atJ; rw [List.getD_eq_getElem?_getD, hx]; rfl
                      have hlt : a < x.1 := by rw [← ex]; exact Hstop.out hn
                      generalize x.1 = x1 at *
                      clear hx hc ex
                      have hlf : decide (x1 ≤ a) = false := decide_eq_false (by omega)
                      go_wp2
                      go_meet
                      case rel => exact ⟨rfl, rfl⟩
                    · have hnf : decide (q < js.length) = false := decide_eq_false hn
                      go_wp2
                      go_meet
                      case rel => exact ⟨rfl, rfl⟩
                  case rest =>
                    obtain ⟨rfl, rfl⟩ := hcut
                    have b3 := hI.on.cell (i := 0) (by omega)
                    obtain ⟨t, ht⟩ : ∃ t, t = (decide (s.on = none) || preB rule) := ⟨_, rfl⟩
                    have Ht := Lib.hid ht
                    obtain ⟨o, ho⟩ : ∃ o, o = onV s.on := ⟨_, rfl⟩
                    rw [← ho] at b3
                    have Ho := Lib.hid ho
                    have Hneg : Hid (o < 0 ↔ s.on = none) := Lib.hid (by rw [ho]; cases s.on with
                      | none => simp [onV]
                      | some i => simp [onV])
                    clear ht ho
                    go_upto_region 21 with fail
                    go_cut [88] (fun v wx => v = .bool t ∧ wr = wx)
                    case first => as_aux_lemma =>
                      by_cases hneg : o < 0
                      · have htt : t = true := by rw [Ht.out, decide_eq_true (Hneg.out.1 hneg)]; rfl
                        go_wp2
                        go_meet
                        case rel => exact ⟨by rw [htt], rfl⟩
                      · have hnn : decide (o < 0) = false := decide_eq_false hneg
                        by_cases h5 : 5 ≤ rule
                        · have htt : t = true := by rw [Ht.out]; unfold preB; rw [decide_eq_true h5]; simp
                          go_wp2
                          go_meet
                          case rel => exact ⟨by rw [htt], rfl⟩
                        · have h5f : decide (5 ≤ rule) = false := decide_eq_false h5
                          have htt : t = false := by rw [Ht.out]; unfold preB; rw [h5f, decide_eq_false (fun e => hneg (Hneg.out.2 e))]; rfl
                          go_wp2
                          go_meet
                          case rel => exact ⟨by rw [htt], rfl⟩
                    case rest =>
                      obtain ⟨rfl, rfl⟩ := hcut
                      go_upto_if 88 with fail
                      go_cut [] (fun wx => ∃ on : Nat, Hid (on ∈ W ∧ (s.on = none ∨ preB rule = true → BestOf rule js s.left W on) ∧ ∀ i, s.on = some i → preB rule = false → on = i) ∧ RunIs w pl pr pf po rule A cap js bl (po + 1) s.left on W s.out (Value.slice A10 s.out.length cap10) (Value.slice A14' W.length cap14') wx)
                      case first => as_aux_lemma =>
                        cases t with
                        | false =>
                          go_wp2
                          go_meet
                          case rel =>
                            have Iv := hR.out.inv (Jobs_of HO.out)
                            have h1 := Ht.out
                            cases hon : s.on with
                            | none => rw [hon] at h1; simp at h1
                            | some i =>
                              rw [hon] at h1
                              have hpf : preB rule = false := by simpa using h1.symm
                              refine ⟨i, Lib.hid ⟨?_, fun h => ?_, fun j hj _ => ?_⟩, ?_⟩
                              · rw [HW.out]; exact List.mem_append_left _ (Iv.on_mem i hon)
                              · rw [hpf] at h; simp at h
                              · injection hj
                              · rw [hon] at hI; exact hI
                        | true =>
                          have hWlt : ∀ i ∈ W, i < js.length := W_lt HO.out hR.out hq2 HW.out
                          have hWne : 0 < W.length := W_ne Ha.out Hmore.out hq1 HW.out Hstop.out
                          have C := Lib.hid (MinFunc_any hI.vars hfew h1 h6 A14' cap14' W hWlt hWne (by omega) (by
                            have := own_ints (ys := natsL W) (by rw [natsL_map]; exact hI.wait) rfl
                            exact this))
                          go_wp2_with fail
                          refine C.out.mono ?_
                          rintro e w9 ⟨hs9, on, hbest, rfl⟩
                          have hI9 := hI.later hs9
                          have b4 := hI9.on.cell (i := 0) (by omega)
                          have b5 := hI9.on.frozen 0
                          rw [← Ho.out] at b4
                          go_wp2
                          go_meet
                          case rel =>
                            have h1 := Ht.out
                            refine ⟨on, Lib.hid ⟨hbest.mem, fun _ => hbest, fun i hi hp => ?_⟩, ?_⟩
                            · rw [hi, hp] at h1; simp at h1
                            · exact hI9.setOn HPh.out HJ.out _
                      case rest =>
                        clear hI b1 b2 b3
                        obtain ⟨on, hOn, hI⟩ := hcut
                        rename World => wa
                        obtain ⟨b, hb⟩ : ∃ b, b = if preB rule = true ∧ q < js.length then min (a + s.left on) (atJ js q) else a + s.left on := ⟨_, rfl⟩
                        have HS := Lib.hid (step_of Hmore.out Ha.out hq1 hq2 hcame.out Hstop.out HW.out hOn.out hb)
                        have F := step_facts HO.out hR.out HS.out hq1 hq2
                        have Hb := Lib.hid hb
                        clear hb
                        obtain ⟨f1, f2, f3, f4, f5⟩ := F
                        have b1 := hI.vars.r
                        have b2 := hI.vars.l
                        have b3 := hI.vars.f
                        have b4 := hI.on.cell (i := 0) (by omega)
                        have b5 := hI.vars.row.cell f5
                        have b6 := hI.vars.row.frozen on
                        obtain ⟨L, hL⟩ : ∃ L, L = s.left on := ⟨_, rfl⟩
                        rw [← hL] at b5 f1 f3 f4
                        have HL := Lib.hid hL
                        clear hL
                        have onz : (on : Int) < (js.length : Int) := by omega
                        obtain ⟨t2, ht2⟩ : ∃ t, t = (preB rule && decide (q < js.length)) := ⟨_, rfl⟩
                        have Ht2 := Lib.hid ht2
                        clear ht2
                        go_upto_region 24 with fail
                        go_cut [105] (fun v wx => v = .bool t2 ∧ wa = wx)
                        case first => as_aux_lemma =>
                          by_cases h5 : 5 ≤ rule
                          · have hp : preB rule = true := decide_eq_true h5
                            by_cases hq : q < js.length
                            · have hqz : (q : Int) < (js.length : Int) := by omega
                              go_wp2
                              go_meet
                              case rel => exact ⟨by rw [Ht2.out, hp, decide_eq_true hq]; rfl, rfl⟩
                            · have hqf : decide (q < js.length) = false := decide_eq_false hq
                              go_wp2
                              go_meet
                              case rel => exact ⟨by rw [Ht2.out, hqf]; simp, rfl⟩
                          · have h5f : decide (5 ≤ rule) = false := decide_eq_false h5
                            go_wp2
                            go_meet
                            case rel => exact ⟨by rw [Ht2.out]; unfold preB; rw [h5f]; rfl, rfl⟩
                        case rest =>
                          obtain ⟨rfl, rfl⟩ := hcut
                          go_upto_if 105 with fail
                          go_cut [15] (fun v wx => v = .int .i64 b ∧ wa = wx)
                          case first => as_aux_lemma =>
                            cases t2 with
                            | false =>
                              go_wp2
                              go_meet
                              case rel =>
                                have h1 := Ht2.out
                                exact ⟨by rw [Hb.out, if_neg (fun ⟨e1, e2⟩ => by rw [e1, decide_eq_true e2] at h1; cases h1), HL.out], rfl⟩
                            | true =>
                              have h1 : preB rule = true ∧ q < js.length := by
                                have := Ht2.out
                                simpa using this.symm
                              obtain ⟨h1a, h1b⟩ := h1
                              have H1a := Lib.hid h1a
                              clear h1a
                              have hqz : (q : Int) < (js.length : Int) := by omega
                              obtain ⟨b', off, rfl, hb', hc⟩ := HJ.out q h1b
                              obtain ⟨x, hx⟩ : ∃ x, js[q]? = some x := ⟨js[q], List.getElem?_eq_getElem h1b⟩
                              obtain ⟨c0, _, _⟩ := hc q x hx
                              rw [← hI.since.cell (show b' < w.heap.size from hb')] at c0
                              have ex : atJ js q = x.1 := by unfold atJ; rw [List.getD_eq_getElem?_getD, hx]; rfl
                              have Ex := Lib.hid ex
                              generalize x.1 = x1 at *
                              clear hx hc ex
                              go_wp2
                              all_goals
                                go_meet
                                case rel => exact ⟨by rw [Hb.out, if_pos ⟨H1a.out, h1b⟩, Ex.out, ← HL.out]; congr 1; omega, rfl⟩
                          case rest =>
                            obtain ⟨rfl, rfl⟩ := hcut
                            -- ITER
                            obtain ⟨D, hD⟩ : ∃ D, D = L - (b - a) := ⟨_, rfl⟩
                            have hI2 := hI.setLeft HPh.out HJ.out on D
                            rw [hD] at hI2
                            have HD := Lib.hid hD
                            clear hD
                            obtain ⟨t3, ht3⟩ : ∃ t, t = merges s.out on a := ⟨_, rfl⟩
                            have Ht3 := Lib.hid ht3
                            clear ht3
                            clear b1 b2 b3 b4 b5 b6
                            have b1 := hI.vars.r
                            have b2 := hI.vars.l
                            have b3 := hI.vars.f
                            have b4 := hI.on.cell (i := 0) (by omega)
                            have b5 := hI.vars.row.cell f5
                            have b6 := hI.vars.row.frozen on
                            rw [← HL.out] at b5
                            go_upto_region 27 with fail
                            clear b1 b2 b3 b4 b5 b6 hI
                            generalize wa.setCell ⟨bl, on, none⟩ (.int .i64 (L - (b - a))) = wb at *
                            rw [← HD.out] at hI2
                            obtain ⟨k, hk⟩ : ∃ k, k = (s.out.length : Int) - 1 := ⟨_, rfl⟩
                            have Hk := Lib.hid hk
                            clear hk
                            go_cut [16] (fun v wx => v = .int .i64 k ∧ wb = wx)
                            case first => as_aux_lemma =>
                              go_wp2
                              go_meet
                              case rel => exact ⟨by rw [Hk.out], rfl⟩
                            case rest =>
                            obtain ⟨rfl, rfl⟩ := hcut
                            have hI2o := hI2.out
                            have b1 := hI2.on.cell (i := 0) (by omega)
                            go_upto_region 28 with fail
                            go_cut [144] (fun v wx => v = .bool t3 ∧ ∃ m, wx = wb.drewN m)
                            case first => as_aux_lemma =>
                              rcases List.eq_nil_or_concat s.out with ho | ⟨o, p, ho⟩ <;> try rw [List.concat_eq_append] at ho
                              · have hk0 : k < 0 := by rw [Hk.out, ho]; simp
                                have hkf : decide (0 ≤ k) = false := decide_eq_false (by omega)
                                have htt : t3 = false := by rw [Ht3.out, ho]; rfl
                                have Ho := Lib.hid ho
                                clear ho
                                go_quiet (fail)
                                go_wp2
                                go_meet
                                case rel => exact ⟨by rw [htt], _, rfl⟩
                              · have hk0 : k = (o.length : Int) := by rw [Hk.out, ho]; simp
                                have hol : s.out.length = o.length + 1 := by rw [ho]; simp
                                obtain ⟨g, cap', hv, hgb, hglt, _, _, hgc, hgf⟩ := own_at hI2o (by omega)
                                injection hv with e1 e2 e3
                                subst e1
                                have k1 := hgc (o.length * 3) (.int .i64 (p.1 : Nat)) (by rw [ho, outV_snoc, List.getElem?_append_right (by rw [outV_len]; omega), outV_len, Nat.sub_self]; rfl)
                                have k2 := hgc (o.length * 3 + 2) (.int .i64 p.2.2) (by rw [ho, outV_snoc, List.getElem?_append_right (by rw [outV_len]; omega), outV_len, show o.length * 3 + 2 - o.length * 3 = 2 by omega]; rfl)
                                have hkz : (o.length : Int) < (s.out.length : Int) := by omega
                                have htt : t3 = decide (p.1 = on ∧ p.2.2 = a) := by rw [Ht3.out, ho]; simp [merges]
                                have Htt := Lib.hid htt
                                have Ho := Lib.hid ho
                                have Hol := Lib.hid hol
                                clear htt ho hgc hgf e2 e3 hol hI2o
                                obtain ⟨p1, p2, p3⟩ := p
                                simp only at k1 k2 Htt
                                subst hk0
                                by_cases e1 : p1 = on
                                · subst e1
                                  by_cases e2 : p3 = a
                                  · subst e2
                                    go_quiet (fail)
                                    go_wp2
                                    go_meet
                                    case rel => exact ⟨by rw [Htt.out]; simp, _, rfl⟩
                                  · have e2b : (p3 == a) = false := beq_eq_false_iff_ne.2 e2
                                    go_quiet (fail)
                                    go_wp2
                                    go_meet
                                    case rel => exact ⟨by rw [Htt.out]; simp [e2], _, rfl⟩
                                · have e1b : ((p1 : Int) == (on : Int)) = false := beq_eq_false_iff_ne.2 (by omega)
                                  have e1c : (p1 == on) = false := beq_eq_false_iff_ne.2 e1
                                  go_quiet (fail)
                                  go_wp2
                                  go_meet
                                  case rel => exact ⟨by rw [Htt.out]; simp [e1], _, rfl⟩
                            case rest =>
                            obtain ⟨rfl, m, rfl⟩ := hcut
                            have hI3 := hI2.later (wx := wb.drewN m) ⟨rfl, rfl, rfl, Nat.le_refl _, fun _ _ => rfl⟩
                            clear hI2 hI2o b1
                            generalize wb.drewN m = wd at *
                            go_upto_if 144 with fail
                            go_cut [10] (fun v wx => RunIs w pl pr pf po rule A cap js bl (po + 1) (upd s.left on D) on W (push s.out on a b) v (Value.slice A14' W.length cap14') wx)
                            case first => as_aux_lemma =>
                              have hI3o := hI3.out
                              have b1 := hI3.on.cell (i := 0) (by omega)
                              cases t3 with
                              | true =>
                                have h1 := Ht3.out
                                unfold merges at h1
                                cases hl : s.out.getLast? with
                                | none => rw [hl] at h1; cases h1
                                | some p =>
                                  rw [hl] at h1
                                  have h2 : p.1 = on ∧ p.2.2 = a := by simpa using h1.symm
                                  obtain ⟨o, ho⟩ := List.getLast?_eq_some_iff.1 hl
                                  have hk0 : k = (o.length : Int) := by rw [Hk.out, ho]; simp
                                  have hol : s.out.length = o.length + 1 := by rw [ho]; simp
                                  obtain ⟨g, cap', hv, hgb, hglt, _, _, hgc, hgf⟩ := own_at hI3o (by omega)
                                  injection hv with e1 e2 e3
                                  subst e1
                                  have k2 := hgc (o.length * 3 + 2) (.int .i64 p.2.2) (by rw [ho, outV_snoc, List.getElem?_append_right (by rw [outV_len]; omega), outV_len, show o.length * 3 + 2 - o.length * 3 = 2 by omega]; rfl)
                                  have k3 := hgf (o.length * 3 + 2)
                                  have hkz : (o.length : Int) < (s.out.length : Int) := by omega
                                  have hI4 := hI3
                                  rw [ho] at hI4
                                  have hI5 := hI4.outSet HPh.out HJ.out rfl b
                                  have hpush : push s.out on a b = o ++ [(p.1, p.2.1, b)] := by
                                    unfold push
                                    rw [hl]
                                    simp only
                                    rw [if_pos h2, ho, List.dropLast_concat]
                                  rw [← hpush] at hI5
                                  have HI5 := Lib.hid hI5
                                  subst hk0
                                  have hlen : s.out.length = (o ++ [p]).length := by rw [ho]
                                  rw [← hlen] at HI5
                                  have H1 := Lib.hid h1
                                  clear h1 hl h2 ho hol hgc hgf e2 e3 hI3 hI3o hI4 hI5 hpush hlen
                                  go_wp2
                                  go_meet
                                  case rel => exact HI5.out
                              | false =>
                                obtain ⟨j0, hj0, hy0, hy1, hy2⟩ := info_parts info_piece
                                have hI4 := hI3.later ((World.Since.refl _ _).alloc (Nat.le_refl _) (Obj.cells #[Value.int .i64 (on : Nat), Value.int .i64 a, Value.int .i64 b] 36))
                                have hown := hI4.out
                                have hB : po + 1 ≤ wd.heap.size := by have := hI3.on.lt; omega
                                have hB2 : po + 1 ≤ (wd.alloc (Obj.cells #[Value.int .i64 (on : Nat), Value.int .i64 a, Value.int .i64 b] 36)).heap.size := by simp; omega
                                have Hj0 := Lib.hid hj0
                                have Hy0 := Lib.hid hy0
                                have Hy1 := Lib.hid hy1
                                have Hy2 := Lib.hid hy2
                                have hpush : push s.out on a b = s.out ++ [(on, a, b)] := push_new Ht3.out
                                have Hpush := Lib.hid hpush
                                clear hj0 hy0 hy1 hy2 hI3o hpush
                                go_wp2_with (at_builtin; refine wpList_append_own _ rfl _ _ 24 rfl (po + 1) 36 j0 _ 3 24 Try.underlying24 Hj0.out Hy0.out Hy1.out Hy2.out rfl (by decide) _ _ _ rfl hown ⟨wd.heap.size, 0, none⟩ 1 1 (pieceV (on, a, b)) rfl rfl (piece_new _ _ _ _ _) (by intro u hu; simp [pieceV] at hu; rcases hu with rfl | rfl | rfl <;> rfl) (by unfold maxLen; omega) (by omega) hB2 ?_; intro v8 w8 hown8 hg8 _)
                                have hI5 := hI4.outGrown HPh.out HJ.out (out' := s.out ++ [(on, a, b)]) (v10' := v8) (by rw [List.length_append, outV_snoc]; exact hown8) hg8
                                clear hown8 hown
                                go_wp2
                                go_meet
                                case rel => rw [Hpush.out]; exact hI5
                            case rest =>
                            clear hI3
                            rename World => we
                            rename_i v10
                            have hI6 := hcut
                            clear hcut
                            have b3 := hI6.vars.f
                            have b4 := hI6.on.cell (i := 0) (by omega)
                            have b7 := hI6.on.frozen 0
                            have b5 := hI6.vars.row.cell f5
                            rw [show upd s.left on D on = D by unfold upd; rw [if_pos rfl]] at b5
                            have hmu : mu (atJ js) js.length (after s (q - s.next) on a b) < mu (atJ js) js.length s := mu_step (Jobs_of HO.out) (hR.out.inv (Jobs_of HO.out)) HS.out
                            have hnx : (after s (q - s.next) on a b).next = q := by show s.next + (q - s.next) = q; omega
                            have hDL : s.left on - (b - a) = D := by rw [HD.out, HL.out]
                            by_cases hz : D = 0
                            · have hzb : (D == 0) = true := by simp [hz]
                              have hWne : 0 < W.length := List.length_pos_of_mem hOn.out.1
                              obtain ⟨g, cap', f, hv, hgb, hnc, hcm, hrow, hfx⟩ := own_rowIs hI6.wait hWne
                              injection hv with e1 e2 e3
                              subst e1 e3
                              have hgpo : po ≠ g := by omega
                              have b8 := hI6.on.lt
                              have C := DeleteFunc_any g cap14' cap14' f (natsL W) 21 #[.pointer (some ⟨po, 0, none⟩)] (fun x => x == (on : Int)) we (fun _ _ => by kernel_rfl) (fun W' ho => del_any (by rw [ho.cell (a := ⟨po, 0, none⟩) b8 hgpo]; exact b4)) hrow (holds_nats hfx) (by rw [natsL_len]; exact hnc) rfl (by rw [natsL_len]; omega)
                              rw [natsL_len, natsL_filter] at C
                              have HC2 := Lib.hid C
                              have hmem : (W.filter fun i => !(i == on)).length ≤ W.length := List.length_filter_le _ _
                              obtain ⟨W2, hW2⟩ : ∃ W2, W2 = W.filter fun i => !(i == on) := ⟨_, rfl⟩
                              rw [← hW2] at HC2 hmem
                              have HW2 := Lib.hid hW2
                              have Hz := Lib.hid hz
                              clear C hfx hrow hW2 hz b8
                              go_wp2_with fail
                              refine HC2.out.mono ?_
                              rintro e w9 ⟨ho9, rfl, f9, hrow9, hf9⟩
                              rw [natsL_len]
                              have hI7 := hI6.waitCut HPh.out HJ.out (wait' := W2) (v14' := .slice (some ⟨g, 0, none⟩) W2.length cap14') rfl ho9 (own_ofRow hrow9 hgb (by omega) hcm (by simp) (fun j x hx => by
                                rw [List.getElem?_map] at hx
                                cases hy : W2[j]? with
                                | none => rw [hy] at hx; cases hx
                                | some y =>
                                  rw [hy] at hx
                                  injection hx with hx
                                  rw [← hx]
                                  exact hf9 j y (by unfold natsL; rw [List.getElem?_map, hy]; rfl)))
                              have hI8 := hI7.setOn HPh.out HJ.out (-1)
                              have c4 := hI7.on.cell (i := 0) (by omega)
                              have c7 := hI7.on.frozen 0
                              have HI8 := Lib.hid hI8
                              clear hI8 hI7 hrow9 hf9 ho9 hI6 b3 b4 b5 b7
                              go_wp2
                              go_roundg (mu (atJ js) js.length (after s (q - s.next) on a b))
                              case measure => exact hmu
                              case rel =>
                                have a1 : (after s (q - s.next) on a b).left = upd s.left on D := by
                                  show upd s.left on (s.left on - (b - a)) = _
                                  rw [hDL]
                                have a2 : (after s (q - s.next) on a b).on = none := if_pos (by rw [hDL]; exact Hz.out)
                                have a3 : (after s (q - s.next) on a b).wait = W2 := by
                                  rw [HW2.out, HW.out]
                                  exact if_pos (by rw [hDL]; exact Hz.out)
                                refine ⟨after s (q - s.next) on a b, Lib.hid (.step hR.out HS.out), rfl, rfl, by rw [hnx], ?_⟩
                                rw [a1, a2, a3]
                                exact HI8.out
                            · have hzb : (D == 0) = false := beq_eq_false_iff_ne.2 hz
                              have Hz := Lib.hid hz
                              clear hz
                              go_wp2
                              go_roundg (mu (atJ js) js.length (after s (q - s.next) on a b))
                              case measure => exact hmu
                              case rel =>
                                have a1 : (after s (q - s.next) on a b).left = upd s.left on D := by
                                  show upd s.left on (s.left on - (b - a)) = _
                                  rw [hDL]
                                have a2 : (after s (q - s.next) on a b).on = some on := if_neg (by rw [hDL]; exact Hz.out)
                                have a3 : (after s (q - s.next) on a b).wait = W := by
                                  rw [HW.out]
                                  exact if_neg (by rw [hDL]; exact Hz.out)
                                refine ⟨after s (q - s.next) on a b, Lib.hid (.step hR.out HS.out), rfl, rfl, by rw [hnx], ?_⟩
                                rw [a1, a2, a3]
                                exact hI6
        · have hw : s.wait = [] := Classical.byContradiction fun e => hmore (.inr e)
          have hn : js.length ≤ s.next := by have := fun t => hmore (.inl t); omega
          have hnz : (js.length : Int) ≤ (s.next : Int) := by omega
          have hwb : (s.wait.length : Int) ≤ 0 := by simp [hw]
          have Hw := Lib.hid hw
          have Hmore := Lib.hid hmore
          have hnf : decide (s.next < js.length) = false := decide_eq_false (by omega)
          clear hw hmore
          go_wp2
          go_ret2
          have hP := HPh.out
          exact ⟨hI.since, s, _, hR.out, Hmore.out, rfl, own_base hI.out (by have := hP.a; omega)⟩
end Go.Proofs.Ytekjddcckkelnaa
