/- shop: Hu. -/
import Derived.Test.YtjndmehhdgiphaaW10
namespace Go.Proofs.Ytjndmehhdgiphaa
open Go.RowKit PermM StabM McM HuM

/-- what is next, as a function -/
def nf (nx : List Int) (i : Nat) : Int := nx.getD i (-1)
def lvF (nx : List Int) (n i : Nat) : Nat := levF (nf nx) (n + 1) i
/-- what Hu answers -/
structure HuRes (nx : List Int) (m : Nat) (ti : Nat → Int) (T : Nat) : Prop where
  rng : ∀ i, i < nx.length → -1 ≤ nf nx i ∧ nf nx i < nx.length
  lev : ∀ i, i < nx.length → lvF nx nx.length i ≤ nx.length
  st : HuSt nx.length m (nf nx) (lvF nx nx.length) T ti
  all : ∀ i, i < nx.length → 0 ≤ ti i
  few : T ≤ nx.length
def HuPost (nx : List Int) (M : Int) (w : World) (e : Ending) (w' : World) : Prop :=
  w.Since w.heap.size w' ∧ ((∃ k : Int, e = .returned (.tuple #[.slice none 0 0, .iface 50 (.int .i64 k)])) ∨
    ∃ (g : Nat) (ti : Nat → Int) (m T : Nat), e = .returned (.tuple #[.slice (some ⟨g, 0, none⟩) nx.length nx.length, .nilIface]) ∧ M = m ∧ 1 ≤ m ∧ m ≤ 20 ∧ nx.length ≤ 60 ∧ w'.rowIs g 3 nx.length (fun i => .int .i64 (ti i)) ∧ HuRes nx m ti T)
theorem HuPost.bad {nx : List Int} {M : Int} {w w' : World} (k : Int) (hs : w.Since w.heap.size w') : HuPost nx M w (.returned (.tuple #[.slice none 0 0, .iface 50 (.int .i64 k)])) w' := ⟨hs, .inl ⟨k, rfl⟩⟩
theorem HuW.setw {w wr : World} {p6 p7 bl bw n : Nat} {lf wf : Nat → Int} (h : HuW w wr p6 p7 bl bw n lf wf) (a : Apart w p6 p7 bl bw) (i : Nat) (v : Int) : HuW w (wr.setCell ⟨bw, i, none⟩ (.int .i64 v)) p6 p7 bl bw n lf (fun j => if j = i then v else wf j) :=
  ⟨h.since.setCell a.hw _, by rw [World.cell?_setCell_other _ _ _ _ (by simp; exact fun e => absurd e.symm a.n3)]; exact h.c6, by rw [World.cell?_setCell_other _ _ _ _ (by simp; exact fun e => absurd e.symm a.n5)]; exact h.c7, h.rl.setOther (a := ⟨bw, i, none⟩) a.n6 _, (h.rw.set i _).congr (fun j _ => by by_cases e : j = i <;> simp [e])⟩
theorem HuW.setl {w wr : World} {p6 p7 bl bw n : Nat} {lf wf : Nat → Int} (h : HuW w wr p6 p7 bl bw n lf wf) (a : Apart w p6 p7 bl bw) (i : Nat) (v : Int) : HuW w (wr.setCell ⟨bl, i, none⟩ (.int .i64 v)) p6 p7 bl bw n (fun j => if j = i then v else lf j) wf :=
  ⟨h.since.setCell a.hl _, by rw [World.cell?_setCell_other _ _ _ _ (by simp; exact fun e => absurd e.symm a.n2)]; exact h.c6, by rw [World.cell?_setCell_other _ _ _ _ (by simp; exact fun e => absurd e.symm a.n4)]; exact h.c7, (h.rl.set i _).congr (fun j _ => by by_cases e : j = i <;> simp [e]), h.rw.setOther (a := ⟨bl, i, none⟩) (fun e => a.n6 e.symm) _⟩
theorem HuW.since' {w wr wx : World} {p6 p7 bl bw n : Nat} {lf wf : Nat → Int} (h : HuW w wr p6 p7 bl bw n lf wf) (hs : wr.Since wr.heap.size wx) : HuW w wx p6 p7 bl bw n lf wf :=
  ⟨since_join h.since hs, by rw [hs.cell (World.block_lt_of_cell? _ _ h.c6)]; exact h.c6, by rw [hs.cell (World.block_lt_of_cell? _ _ h.c7)]; exact h.c7, h.rl.of_block (hs.block _ h.rl.lt), h.rw.of_block (hs.block _ h.rw.lt)⟩
/-- who may be done now -/
def rdyB (ti wf : Nat → Int) (i : Nat) : Bool := decide (ti i < 0) && decide (wf i = 0)
def mayK (ti wf : Nat → Int) (k : Nat) : List Nat := (List.range k).filter (rdyB ti wf)
theorem mayK_yes {ti wf : Nat → Int} {k : Nat} (h : rdyB ti wf k = true) : mayK ti wf (k + 1) = mayK ti wf k ++ [k] := by
  unfold mayK; rw [List.range_succ, List.filter_append]; simp [h]
theorem mayK_no {ti wf : Nat → Int} {k : Nat} (h : rdyB ti wf k = false) : mayK ti wf (k + 1) = mayK ti wf k := by
  unfold mayK; rw [List.range_succ, List.filter_append]; simp [h]
theorem mayK_len (ti wf : Nat → Int) (k : Nat) : (mayK ti wf k).length ≤ k := by
  have := List.length_filter_le (rdyB ti wf) (List.range k)
  rw [List.length_range] at this
  exact this
theorem mayK_mem {ti wf : Nat → Int} {k i : Nat} : i ∈ mayK ti wf k ↔ i < k ∧ ti i < 0 ∧ wf i = 0 := by
  unfold mayK rdyB; simp [List.mem_filter]
theorem mayK_nodup (ti wf : Nat → Int) (k : Nat) : (mayK ti wf k).Nodup := List.nodup_range.filter _
theorem seg_getD (ls : List Nat) : seg (fun i => ls.getD i 0) 0 ls.length = ls := by
  unfold seg
  apply List.ext_getElem?
  intro i
  rw [List.getElem?_map]
  by_cases h : i < ls.length
  · rw [List.getElem?_range' (by omega)]
    simp [List.getD_eq_getElem?_getD, h]
  · rw [List.getElem?_eq_none (by simp; omega), List.getElem?_eq_none (by omega)]; rfl
/-- the sorted row as a list -/
structure Picked (ls : List Nat) (lf : Nat → Int) (L : List Nat) (f : Nat → Nat) : Prop where
  len : L.length = ls.length
  get : ∀ i, i < ls.length → L[i]? = some (f i)
  mem : ∀ x, x ∈ L ↔ x ∈ ls
  nodup : L.Nodup
  sorted : ∀ a b x y : Nat, a < b → L[a]? = some x → L[b]? = some y → lf y ≤ lf x
theorem picked {ls : List Nat} {lf : Nat → Int} {f : Nat → Nat} (hd : ls.Nodup) (h : SortPost (lcmp lf) ls.length 0 ls.length (fun i => ls.getD i 0) f) : Picked ls lf (seg f 0 ls.length) f := by
  have hp := h.perm.perm
  rw [seg_getD] at hp
  have hl : (seg f 0 ls.length).length = ls.length := by unfold seg; simp
  have hg : ∀ i, i < ls.length → (seg f 0 ls.length)[i]? = some (f i) := fun i hi => by
    unfold seg
    rw [List.getElem?_map, List.getElem?_range' (by omega)]
    simp
  refine ⟨hl, hg, fun x => hp.mem_iff, hp.nodup_iff.2 hd, fun a b x y hab ha hb => ?_⟩
  have hb' := (List.getElem?_eq_some_iff.1 hb).1
  rw [hl] at hb'
  rw [hg a (by omega)] at ha
  rw [hg b hb'] at hb
  injection ha with ha
  injection hb with hb
  have := h.sorted a b (Nat.zero_le _) hab hb'
  unfold leC lcmp at this
  rw [← ha, ← hb]
  omega
/-- who has been done at this time, j of them -/
def tq (L : List Nat) (now : Int) (ti : Nat → Int) (j : Nat) (x : Nat) : Int := if x ∈ L.take j then now else ti x
theorem tq_zero (L : List Nat) (now : Int) (ti : Nat → Int) : tq L now ti 0 = ti := by funext x; simp [tq]
theorem tq_succ {L : List Nat} {now : Int} {ti : Nat → Int} {j x : Nat} (hx : L[j]? = some x) : tq L now ti (j + 1) = fun y => if y = x then now else tq L now ti j y := by
  funext y
  unfold tq
  rw [take_snoc' hx]
  by_cases e : y = x
  · subst e; simp
  · by_cases e2 : y ∈ L.take j
    · simp [e2]
    · simp [e, e2]
theorem tq_at {L : List Nat} {now : Int} {ti : Nat → Int} {j x : Nat} (hd : L.Nodup) (hx : L[j]? = some x) : tq L now ti j x = ti x := by
  unfold tq
  rw [if_neg]
  intro hm
  obtain ⟨i, hi⟩ := List.getElem?_of_mem hm
  have hij := (List.getElem?_eq_some_iff.1 hi).1
  rw [List.length_take] at hij
  rw [List.getElem?_take, if_pos (by omega)] at hi
  obtain ⟨a1, a2⟩ := List.getElem?_eq_some_iff.1 hi
  obtain ⟨b1, b2⟩ := List.getElem?_eq_some_iff.1 hx
  have := (List.getElem_inj hd).1 (a2.trans b2.symm)
  omega
theorem cnt_tq {n : Nat} {q : Nat → Bool} {L : List Nat} {now : Nat} {ti : Nat → Int} {j x : Nat} (hd : L.Nodup) (hx : L[j]? = some x) (hxn : x < n) (ht : ti x < 0) :
    cnt n (fun y => q y && decide (tq L now ti j y < 0)) = cnt n (fun y => q y && decide (tq L now ti (j + 1) y < 0)) + if q x then 1 else 0 := by
  rw [tq_succ hx]
  exact cnt_done hxn (by rw [tq_at hd hx]; exact ht) (by omega)
theorem hu_next {n m now : Nat} {nx : Nat → Int} {lv : Nat → Nat} {ti wf lf : Nat → Int} {L : List Nat} {f : Nat → Nat} (h : HuSt n m nx lv now ti) (hwt : ∀ k, k < n → wf k = (wt n nx ti k : Nat)) (hlf : ∀ i, i < n → lf i = (lv i : Int)) (hp : Picked (mayK ti wf n) lf L f)
    (hm : 1 ≤ m) (h0 : 0 < (mayK ti wf n).length) : HuSt n m nx lv (now + 1) (tq L now ti (min m (mayK ti wf n).length)) := by
  have hrd : ∀ x, x ∈ L ↔ Rdy n nx ti x := fun x => by
    rw [hp.mem, mayK_mem]
    constructor
    · rintro ⟨h1, h2, h3⟩
      rw [hwt x h1] at h3
      exact (wt_zero h1 h2).1 (by omega)
    · intro h1
      refine ⟨h1.1, h1.2.1, ?_⟩
      rw [hwt x h1.1, (wt_zero h1.1 h1.2.1).2 h1]; rfl
  have hl := hp.len
  refine hu_step h (r := L.take (min m (mayK ti wf n).length)) (hp.nodup.sublist (List.take_sublist _ _)) (fun x hx => (hrd x).1 (List.mem_of_mem_take hx)) (by rw [List.length_take]; omega) (fun e => ?_) (fun j hj hjn => ?_)
  · have := congrArg List.length e
    rw [List.length_take, List.length_nil] at this
    omega
  · have hjL := (hrd j).2 hj
    obtain ⟨b, hb⟩ := List.getElem?_of_mem hjL
    have hbl := (List.getElem?_eq_some_iff.1 hb).1
    have hqb : min m (mayK ti wf n).length ≤ b := by
      apply Classical.byContradiction
      intro hno
      exact hjn (List.mem_of_getElem? (i := b) (by rw [List.getElem?_take, if_pos (by omega)]; exact hb))
    refine ⟨by rw [List.length_take]; omega, fun x hx => ?_⟩
    obtain ⟨a, ha⟩ := List.getElem?_of_mem hx
    have hal := (List.getElem?_eq_some_iff.1 ha).1
    rw [List.length_take] at hal
    rw [List.getElem?_take, if_pos (by omega)] at ha
    have h1 := hp.sorted a b x j (by omega) ha hb
    have h2 := ((hrd x).1 (List.mem_of_getElem? ha)).1
    rw [hlf j hj.1, hlf x h2] at h1
    omega
theorem HuW.drewN {w wr : World} {p6 p7 bl bw n : Nat} {lf wf : Nat → Int} (h : HuW w wr p6 p7 bl bw n lf wf) (k : Nat) : HuW w (wr.drewN k) p6 p7 bl bw n lf wf := h.since' (since_drewN (World.Since.refl _ _) k)
set_option maxHeartbeats 16000000 in
set_option maxRecDepth 100000 in
theorem Hu_any {A : Option Addr} {cap : Nat} {nx : List Int} {M : Int} {w : World} (h : IntsAt w A nx) (hlen : nx.length ≤ 9223372036854775807) :
    Calls Try.prog 13 #[.slice A nx.length cap, .int .i64 M] w (HuPost nx M w) := by
  by_cases p1 : M < 1
  · clear h
    go_enter Try.func13, Try.ntmps13
    go_wp2
    go_ret2
    exact HuPost.bad 4 (World.Since.refl _ _)
  have p1' : 1 ≤ M := by omega
  clear p1
  by_cases p2 : 20 < M
  · clear h
    go_enter Try.func13, Try.ntmps13
    go_wp2
    go_ret2
    exact HuPost.bad 4 (World.Since.refl _ _)
  have p2' : M ≤ 20 := by omega
  clear p2
  by_cases p3 : 60 < nx.length
  · have p3z : (60 : Int) < (nx.length : Int) := by omega
    clear h
    go_enter Try.func13, Try.ntmps13
    go_wp2
    go_ret2
    exact HuPost.bad 4 (World.Since.refl _ _)
  obtain ⟨n, hn⟩ : ∃ n, n = nx.length := ⟨_, rfl⟩
  have Hn := Lib.hid hn
  have H := Lib.hid h
  rw [← hn] at hlen p3 ⊢
  have p3' : n ≤ 60 := by omega
  have p3z : (n : Int) ≤ 60 := by omega
  clear p3 hn h
  obtain ⟨m, rfl⟩ : ∃ m : Nat, M = (m : Int) := ⟨M.toNat, by omega⟩
  have HX : Hid (∀ i, i < n → ∃ b off, A = some ⟨b, off, none⟩ ∧ b < w.heap.size ∧ ∀ j, j < n → w.cell? ⟨b, off + j, none⟩ = some (.int .i64 (nf nx j))) := Lib.hid (fun i hi => by
    obtain ⟨b, off, h1, h2, h3⟩ := H.out i (by rw [← Hn.out]; exact hi)
    refine ⟨b, off, h1, h2, fun j hj => h3 j _ ?_⟩
    unfold nf
    rw [List.getD_eq_getElem?_getD, List.getElem?_eq_getElem (by rw [← Hn.out]; exact hj)]; rfl)
  have hmk := run_make_row' (P := Try.prog) 23 3 (.int .i64 0) 8 Try.underlying23 info_int rfl .i64 .i64 n (by omega) (by omega)
  have hd1 : decide ((m : Int) < 1) = false := decide_eq_false (by omega)
  have hd2 : decide (20 < (m : Int)) = false := decide_eq_false (by omega)
  have hd3 : decide (60 < (n : Int)) = false := decide_eq_false (by omega)
  go_enter Try.func13, Try.ntmps13
  go_upto_region 4 with fail
  go_cut [7, 8] (fun pv wv wx => ∃ p7 bl bw : Nat, pv = .pointer (some ⟨p7, 0, none⟩) ∧ wv = .slice (some ⟨bw, 0, none⟩) n n ∧ Hid (Apart w w.heap.size p7 bl bw) ∧ Hid (HuW w wx w.heap.size p7 bl bw n (fun _ => 0) (fun _ => 0)))
  case first => as_aux_lemma =>
    have c6 : (w.alloc (Obj.cells #[Value.int .i64 (n : Int)] 3)).cell? ⟨w.heap.size, 0, none⟩ = some (.int .i64 (n : Int)) := by rw [World.cell?_alloc_at _ _ _ _ rfl]; rfl
    have nn := World.new_ne _ _ c6
    clear H HX
    go_region_held3 (fun w' => w'.cell? ⟨w.heap.size, 0, none⟩ = some (.int .i64 (n : Int))) (go_keep) (fail)
    all_goals
      clear c6 nn hmk
      obtain ⟨hh, h0, h1, h2, h3⟩ := hu_heap w _ _ _ _
      go_wp2
      go_meet
    all_goals first
      | exact ⟨w.heap.size + 1, w.heap.size + 1 + 1, w.heap.size + 1 + 1 + 1, rfl, rfl, Lib.hid ⟨by omega, by omega, by omega, by omega, by omega, by omega, by omega, by omega, by omega, by omega⟩, Lib.hid (hu_mem hh h0 h1 h2 h3)⟩
      | exact ⟨w.heap.size + 1, w.heap.size + 1 + 1 + 1, w.heap.size + 1 + 1, rfl, rfl, Lib.hid ⟨by omega, by omega, by omega, by omega, by omega, by omega, by omega, by omega, by omega, by omega⟩, Lib.hid (hu_mem hh h0 h1 h3 h2)⟩
      | exact ⟨w.heap.size + 1 + 1, w.heap.size + 1, w.heap.size + 1 + 1 + 1, rfl, rfl, Lib.hid ⟨by omega, by omega, by omega, by omega, by omega, by omega, by omega, by omega, by omega, by omega⟩, Lib.hid (hu_mem hh h0 h2 h1 h3)⟩
      | exact ⟨w.heap.size + 1 + 1, w.heap.size + 1 + 1 + 1, w.heap.size + 1, rfl, rfl, Lib.hid ⟨by omega, by omega, by omega, by omega, by omega, by omega, by omega, by omega, by omega, by omega⟩, Lib.hid (hu_mem hh h0 h2 h3 h1)⟩
      | exact ⟨w.heap.size + 1 + 1 + 1, w.heap.size + 1, w.heap.size + 1 + 1, rfl, rfl, Lib.hid ⟨by omega, by omega, by omega, by omega, by omega, by omega, by omega, by omega, by omega, by omega⟩, Lib.hid (hu_mem hh h0 h3 h1 h2)⟩
      | exact ⟨w.heap.size + 1 + 1 + 1, w.heap.size + 1 + 1, w.heap.size + 1, rfl, rfl, Lib.hid ⟨by omega, by omega, by omega, by omega, by omega, by omega, by omega, by omega, by omega, by omega⟩, Lib.hid (hu_mem hh h0 h3 h2 h1)⟩
  case rest =>
    obtain ⟨p7, bl, bw, rfl, rfl, hA, hW⟩ := hcut
    clear hmk
    obtain ⟨p6, hp6⟩ : ∃ p6, p6 = w.heap.size := ⟨_, rfl⟩
    rw [← hp6] at hA hW ⊢
    clear hp6
    obtain ⟨t, ht⟩ : ∃ t, nx.any (farH n) = t := ⟨_, rfl⟩
    have C1 := ContainsFunc_any A cap nx 23 #[.pointer (some ⟨p6, 0, none⟩)] (farH n) wc enters23 (fun x => hu1_any n x p6 wc hW.out.c6) (H.out.since (Nat.le_refl _) hW.out.since) (by rw [← Hn.out]; omega)
    rw [ht, ← Hn.out] at C1
    have C1 := Lib.hid C1
    have Ht := Lib.hid ht
    clear ht
    have q6 := hW.out.c6
    have q7 := hW.out.c7
    cases t
    case true =>
      go_wp2_with fail
      refine C1.out.mono ?_
      rintro e w2 ⟨rfl, rfl⟩
      go_wp2
      go_ret2
      exact HuPost.bad 2 hW.out.since
    case false =>
      have Hr : Hid (∀ i, i < n → -1 ≤ nf nx i ∧ nf nx i < n) := Lib.hid (fun i hi => by
        have h1 := (farH_iff n nx).1 Ht.out
        unfold nf
        rw [List.getD_eq_getElem?_getD, List.getElem?_eq_getElem (by rw [← Hn.out]; exact hi)]
        exact h1 _ (List.getElem_mem _))
      go_wp2_with fail
      refine C1.out.mono ?_
      rintro e w2 ⟨rfl, rfl⟩
      clear C1 Ht
      have hW0 : Hid (∀ k, k < n → (0 : Int) = (cnt 0 (fun y => decide (nf nx y = (k : Int))) : Nat)) := Lib.hid (fun k _ => rfl)
      clear q6 q7
      -- ITER
      go_wp2
      go_loopg [46] n (fun gh iv wr => ∃ (i : Nat) (lf wf : Nat → Int), i ≤ n ∧ gh = n - i ∧ iv = .int .i64 i ∧ Hid (HuW w wr p6 p7 bl bw n lf wf) ∧ Hid (∀ k, k < n → wf k = (cnt i (fun y => decide (nf nx y = (k : Int))) : Nat)) ∧ Hid (∀ k, k < n → lf k = if k < i then (lvF nx n k : Int) else 0) ∧ Hid (∀ k, k < i → lvF nx n k ≤ n))
      case atStart => exact ⟨0, _, _, Nat.zero_le _, rfl, rfl, hW, hW0, Lib.hid (fun k _ => by rw [if_neg (by omega)]), Lib.hid (fun k hk => by omega)⟩
      case round =>
        clear hW hW0
        obtain ⟨i, lf, wf, hin, rfl, rfl, hW, hwf, hlf, hlv⟩ := hrel
        by_cases hi : i < n
        · -- SKIP
          have hiz : (i : Int) < (n : Int) := by omega
          obtain ⟨bA, oA, rfl, hbA, hcA⟩ := HX.out i hi
          have f0 := hcA i hi
          rw [← hW.out.since.cell (show bA < w.heap.size from hbA)] at f0
          have HcA := Lib.hid hcA
          clear hcA
          obtain ⟨r0, r1⟩ := Hr.out i hi
          obtain ⟨x, hx⟩ : ∃ x, nf nx i = x := ⟨_, rfl⟩
          have Hx := Lib.hid hx
          rw [hx] at f0 r0 r1
          clear hx
          have Hc2 : Hid (∀ k : Nat, cnt (i + 1) (fun y => decide (nf nx y = (k : Int))) = cnt i (fun y => decide (nf nx y = (k : Int))) + if x = (k : Int) then 1 else 0) := Lib.hid (fun k => by
            show cnt i _ + (if decide (nf nx i = (k : Int)) = true then 1 else 0) = _
            rw [Hx.out]; simp)
          go_upto_if 52 with fail
          go_cut [] (fun wx => ∃ wf', Hid (HuW w wx p6 p7 bl bw n lf wf') ∧ Hid (∀ k, k < n → wf' k = (cnt (i + 1) (fun y => decide (nf nx y = (k : Int))) : Nat)))
          case first => as_aux_lemma =>
            by_cases hx0 : 0 ≤ x
            · obtain ⟨k, rfl⟩ : ∃ k : Nat, x = (k : Int) := ⟨x.toNat, by omega⟩
              have hkn : k < n := by omega
              have g0 := hW.out.rw.cell hkn
              have g1 := hW.out.rw.frozen k
              have hb := cnt_total (p := fun y => decide (nf nx y = (k : Int))) (n := i)
              have hwk := hwf.out k hkn
              obtain ⟨z, hz⟩ : ∃ z, wf k = z := ⟨_, rfl⟩
              rw [hz] at g0 hwk
              have hz0 : 0 ≤ z := by omega
              have hz1 : z ≤ 60 := by omega
              have Hwk := Lib.hid hwk
              clear hz hwk hb
              go_wp2
              go_meet
              case rel =>
                refine ⟨_, Lib.hid (hW.out.setw hA.out k (z + 1)), Lib.hid (fun j hj => ?_)⟩
                rw [Hc2.out j]
                by_cases e : j = k
                · subst e
                  simp only [if_true]
                  rw [Hwk.out]; omega
                · simp only [e, if_false]
                  rw [hwf.out j hj, if_neg (by omega)]; omega
            · have hx0' : x < 0 := by omega
              go_wp2
              go_meet
              case rel =>
                refine ⟨wf, hW, Lib.hid (fun j hj => ?_)⟩
                rw [Hc2.out j, hwf.out j hj, if_neg (by omega)]; omega
          case rest =>
            obtain ⟨wf', hW', hwf'⟩ := hcut
            have Hl0 : Hid (lf i = 0) := Lib.hid (by rw [hlf.out i hi, if_neg (by omega)])
            clear hW hwf f0 Hc2
            go_wp2
            go_loopg [11] (n + 1) (fun gh jv wx => ∃ (s : Nat) (j : Int) (lf' : Nat → Int), s ≤ n ∧ gh = n + 1 - s ∧ jv = .int .i64 j ∧ -1 ≤ j ∧ j < n ∧ Hid (lvF nx n i = s + levF (nf nx) (n + 1 - s) j) ∧ Hid (HuW w wx p6 p7 bl bw n lf' wf') ∧ Hid (lf' i = s) ∧ Hid (∀ k, k ≠ i → lf' k = lf k))
            case atStart => exact ⟨0, i, lf, Nat.zero_le _, rfl, rfl, by omega, by omega, Lib.hid (by rw [Nat.zero_add, Nat.sub_zero]; rfl), hW', Hl0, Lib.hid (fun _ _ => rfl)⟩
            case round =>
              clear hW' Hl0
              obtain ⟨s, j, lf', hsn, rfl, rfl, j0, j1, hlev, hW, hls, hlo⟩ := hrel
              by_cases hj : 0 ≤ j
              · obtain ⟨q, rfl⟩ : ∃ q : Nat, j = (q : Int) := ⟨j.toNat, by omega⟩
                have hqn : q < n := by omega
                have c6 := hW.out.c6
                have c7 := hW.out.c7
                have g0 := hW.out.rl.cell hi
                have g1 := hW.out.rl.frozen i
                rw [hls.out] at g0
                have n2 := hA.out.n2
                have n4 := hA.out.n4
                have hsz : (s : Int) + 1 ≤ 61 := by omega
                by_cases hs : s < n
                · have hsz2 : (s : Int) + 1 ≤ (n : Int) := by omega
                  have f1 := HcA.out q hqn
                  obtain ⟨y0, y1⟩ := Hr.out q hqn
                  have Hlev2 : Hid (lvF nx n i = s + 1 + levF (nf nx) (n + 1 - (s + 1)) (nf nx q)) := Lib.hid (by
                    rw [hlev.out, show n + 1 - s = (n + 1 - (s + 1)) + 1 by omega, levF_pos]; omega)
                  obtain ⟨y, hy⟩ : ∃ y, nf nx q = y := ⟨_, rfl⟩
                  rw [hy] at f1 y0 y1 Hlev2
                  rw [← hW.out.since.cell (show bA < w.heap.size from hbA)] at f1
                  have hAb : bA ≠ bl := by have := hA.out.hl; omega
                  have hbw : bA < wr.heap.size := by have := hW.out.since.size; omega
                  clear hy
                  go_wp2
                  go_quiet (fail)
                  go_wp2
                  go_roundg (n + 1 - (s + 1))
                  case measure => go_light; omega
                  case rel =>
                    go_light
                    exact ⟨s + 1, y, _, by omega, rfl, rfl, y0, y1, Hlev2, Lib.hid ((hW.out.setl hA.out i ((s : Int) + 1)).drewN _), Lib.hid (by simp), Lib.hid (fun k hk => by rw [← hlo.out k hk]; exact if_neg hk)⟩
                · obtain rfl : n = s := by omega
                  go_wp2
                  go_quiet (fail)
                  go_wp2
                  go_ret2
                  exact HuPost.bad 12 (since_drewN (hW.out.setl hA.out i _).since _)
              · have hj' : j = -1 := by omega
                have hjd : j < 0 := by omega
                have Hj := Lib.hid hj'
                have Hlv2 : Hid (lvF nx n i = s) := Lib.hid (by rw [hlev.out, levF_neg hjd]; omega)
                clear hj'
                go_wp2
                go_roundg (n - (i + 1))
                case measure => go_light; omega
                case rel =>
                  go_light
                  refine ⟨i + 1, lf', wf', by omega, rfl, by go_num, hW, hwf', Lib.hid (fun k hk => ?_), Lib.hid (fun k hk => ?_)⟩
                  · by_cases e : k = i
                    · subst e; rw [hls.out, if_pos (by omega), Hlv2.out]
                    · rw [hlo.out k e, hlf.out k hk]
                      by_cases e2 : k < i
                      · rw [if_pos e2, if_pos (by omega)]
                      · rw [if_neg e2, if_neg (by omega)]
                  · by_cases e : k = i
                    · subst e; rw [Hlv2.out]; exact hsn
                    · exact hlv.out k (by omega)
        · obtain rfl : n = i := by omega
          have hmk := run_make_row' (P := Try.prog) 23 3 (.int .i64 0) 8 Try.underlying23 info_int rfl .i64 .i64 n (by omega) (by omega)
          have c6 := hW.out.c6
          go_wp2
          clear hmk
          have HL : Hid (LevOk n (nf nx) (lvF nx n)) := Lib.hid (lev_ok Hr.out (fun i hi => hlv.out i hi))
          have Hlf : Hid (∀ i, i < n → lf i = (lvF nx n i : Int) ∧ lvF nx n i ≤ 60) := Lib.hid (fun i hi => ⟨by rw [hlf.out i hi, if_pos hi], by have := hlv.out i hi; omega⟩)
          have Hwt : Hid (∀ k, k < n → wf k = (wt n (nf nx) (fun _ => -1) k : Nat)) := Lib.hid (fun k hk => by rw [hwf.out k hk, wt_start])
          have r1 := World.rowIs_made wr (Value.int .i64 0) n 3
          have hW2 : HuW w (wr.alloc (Obj.cells (madeCells #[Value.int .i64 0] n) 3)) p6 p7 bl bw n lf wf := hW.out.since' ((World.Since.refl _ _).alloc (Nat.le_refl _) _)
          have m1 : p6 ≠ wr.heap.size := by have := World.block_lt_of_cell? _ _ hW.out.c6; simp only at this; omega
          have m2 : p7 ≠ wr.heap.size := by have := World.block_lt_of_cell? _ _ hW.out.c7; simp only at this; omega
          have m3 : bl ≠ wr.heap.size := by have := hW.out.rl.lt; omega
          have m4 : bw ≠ wr.heap.size := by have := hW.out.rw.lt; omega
          have m5 : w.heap.size ≤ wr.heap.size := hW.out.since.size
          clear c6 hW hwf hlf
          have HW2 := Lib.hid hW2
          clear hW2
          generalize wr.alloc (Obj.cells (madeCells #[Value.int .i64 0] n) 3) = w4 at *
          generalize wr.heap.size = bo at *
          go_loopg [84] n (fun gh iv wr => ∃ i : Nat, i ≤ n ∧ gh = n - i ∧ iv = .int .i64 i ∧ Hid (HuW w wr p6 p7 bl bw n lf wf) ∧ wr.rowIs bo 3 n (fun x => .int .i64 (if x < i then -1 else 0)))
          case atStart => exact ⟨0, Nat.zero_le _, rfl, rfl, HW2, r1.congr (fun x _ => by simp)⟩
          case round =>
            clear r1 HW2
            obtain ⟨i, hi, rfl, rfl, hW, hR⟩ := hrel
            by_cases hin : i < n
            · have hiz : (i : Int) < (n : Int) := by omega
              have g0 := hR.cell hin
              have g1 := hR.frozen i
              have HR := Lib.hid hR
              clear hR
              go_wp2
              go_roundg (n - (i + 1))
              case measure => go_light; omega
              case rel =>
                go_light
                refine ⟨i + 1, by omega, rfl, by go_num, Lib.hid ⟨hW.out.since.setCell (show w.heap.size ≤ bo from m5) _, by rw [World.cell?_setCell_other _ _ _ _ (by first | (simp; done) | (simp; exact fun e => absurd e.symm m1))]; exact hW.out.c6, by rw [World.cell?_setCell_other _ _ _ _ (by first | (simp; done) | (simp; exact fun e => absurd e.symm m2))]; exact hW.out.c7, hW.out.rl.setOther (a := ⟨bo, i, none⟩) m3 _, hW.out.rw.setOther (a := ⟨bo, i, none⟩) m4 _⟩, (HR.out.set i _).congr (fun x hx => ?_)⟩
                by_cases e : x = i
                · subst e; rw [if_pos rfl, if_pos (by omega)]
                · rw [if_neg e]
                  by_cases e2 : x < i
                  · rw [if_pos e2, if_pos (by omega)]
                  · rw [if_neg e2, if_neg (by omega)]
            · obtain rfl : n = i := by omega
              have hR2 : wr.rowIs bo 3 n (fun x => .int .i64 (-1)) := hR.congr (fun x hx => by rw [if_pos hx])
              have HR2 := Lib.hid hR2
              have c6 := hW.out.c6
              clear hR hR2
              have HS0 : Hid (HuSt n m (nf nx) (lvF nx n) 0 (fun _ => -1)) := Lib.hid hu_start
              have Hlft0 : Hid (n = cnt n (fun y => decide ((fun _ => (-1 : Int)) y < 0))) := Lib.hid (by
                have h1 := cnt_list (n := n) (List.range n) List.nodup_range (fun x hx => List.mem_range.1 hx)
                rw [List.length_range] at h1
                conv => lhs; rw [← h1]
                exact cnt_congr (fun x hx => by simp [hx]))
              go_wp2
              clear c6
              -- ITER3
              go_loopg [14, 15] n (fun gh lv' nv wr => ∃ (lft now : Nat) (ti : Nat → Int) (wf : Nat → Int), lft + now ≤ n ∧ lft = gh ∧ lv' = .int .i64 (lft : Int) ∧ nv = .int .i64 (now : Int) ∧ Hid (HuSt n m (nf nx) (lvF nx n) now ti) ∧ Hid (lft = cnt n (fun y => decide (ti y < 0))) ∧ Hid (∀ k, k < n → wf k = (wt n (nf nx) ti k : Nat)) ∧ Hid (HuW w wr p6 p7 bl bw n lf wf) ∧ Hid (wr.rowIs bo 3 n (fun x => .int .i64 (ti x))))
              case atStart => exact ⟨n, 0, _, wf, by omega, rfl, rfl, rfl, HS0, Hlft0, Hwt, hW, HR2⟩
              case round =>
                clear hW HR2 HS0 Hlft0 Hwt
                obtain ⟨lft, now, ti, wf, hln, rfl, rfl, rfl, hS, hlft, hwt, hW, hR⟩ := hrel
                by_cases hl0 : 0 < lft
                · -- SKIP2
                  have hl0z : (0 : Int) < (lft : Int) := by omega
                  have c6 := hW.out.c6
                  obtain ⟨wq, rfl⟩ : ∃ wq, wq = wr := ⟨_, rfl⟩
                  go_wp2
                  go_loopg [16, 97] n (fun gh v iv wx => ∃ k : Nat, k ≤ n ∧ gh = n - k ∧ iv = .int .i64 k ∧ wq.Since wq.heap.size wx ∧ Hid (IRow wx wq.heap.size true v (ints (mayK ti wf k))))
                  case atStart => exact ⟨0, Nat.zero_le _, rfl, rfl, World.Since.refl _ _, Lib.hid (irow_nil _ _ _)⟩
                  case round =>
                    obtain ⟨k, hk, rfl, rfl, hsx, hI⟩ := hrel
                    by_cases hkn : k < n
                    · have hkz : (k : Int) < (n : Int) := by omega
                      have g0 := hR.out.cell hkn
                      have g1 := hW.out.rw.cell hkn
                      rw [← hsx.cell (show bo < wq.heap.size from hR.out.lt)] at g0
                      rw [← hsx.cell (show bw < wq.heap.size from hW.out.rw.lt)] at g1
                      have Hrd : Hid (rdyB ti wf k = (decide (ti k < 0) && decide (wf k = 0))) := Lib.hid rfl
                      have hml := mayK_len ti wf k
                      have hsx2 : ∀ u t, wq.Since wq.heap.size (wr.alloc (.cells u t)) := fun u t => hsx.alloc hsx.size _
                      have Hsx2 := Lib.hid hsx2
                      have Hsx := Lib.hid hsx
                      have hszx := hsx.size
                      clear hsx2 hsx
                      generalize ti k = tk at *
                      generalize wf k = wk at *
                      by_cases ht : tk < 0
                      · by_cases hw0 : wk = 0
                        · have bz : (wk == 0) = true := beq_iff_eq.2 hw0
                          have hrd : rdyB ti wf k = true := by rw [Hrd.out]; simp [ht, hw0]
                          have Hrd2 := Lib.hid hrd
                          obtain ⟨v', w', hrun, hI', hg'⟩ := irow_append (w := wr.alloc (Obj.cells #[Value.int .i64 (k : Int)] 3)) (x := (k : Int)) (a := ⟨wr.heap.size, 0, none⟩) (hI.out.same ((World.Since.refl _ _).alloc (Nat.le_refl _) _)) (by simp; omega) (by rw [World.cell?_alloc_at _ _ _ _ rfl]; rfl) 23 1 (by rw [ints_len]; omega)
                          have hs8 : wq.Since wq.heap.size w' := IRow.grown (Hsx2.out _ _) (hI.out.same ((World.Since.refl _ _).alloc (Nat.le_refl _) _)) hg' (by simp; omega)
                          have Hrun := Lib.hid hrun
                          have HI' := Lib.hid hI'
                          clear hw0 hrd hrun hI' hg'
                          go_wp2_with (at_builtin; refine Lib.wpList_append_run _ rfl _ _ _ _ rfl _ _ rfl rfl _ _ Hrun.out ?_)
                          go_roundg (n - (k + 1))
                          case measure => go_light; omega
                          case rel =>
                            go_light
                            refine ⟨k + 1, by omega, rfl, by go_num, hs8, Lib.hid ?_⟩
                            rw [mayK_yes Hrd2.out]
                            have := HI'.out
                            unfold ints at this ⊢
                            rw [List.map_append]
                            exact this
                        · have bz : (wk == 0) = false := beq_eq_false_iff_ne.2 hw0
                          have hrd : rdyB ti wf k = false := by rw [Hrd.out]; simp [hw0]
                          have Hrd2 := Lib.hid hrd
                          clear hw0 hrd
                          go_wp2
                          go_roundg (n - (k + 1))
                          case measure => go_light; omega
                          case rel =>
                            go_light
                            exact ⟨k + 1, by omega, rfl, by go_num, Hsx.out, by rw [mayK_no Hrd2.out]; exact hI⟩
                      · have hrd : rdyB ti wf k = false := by rw [Hrd.out]; simp [ht]
                        have ht' : 0 ≤ tk := by omega
                        have Hrd2 := Lib.hid hrd
                        clear hrd ht
                        go_wp2
                        go_roundg (n - (k + 1))
                        case measure => go_light; omega
                        case rel =>
                          go_light
                          exact ⟨k + 1, by omega, rfl, by go_num, Hsx.out, by rw [mayK_no Hrd2.out]; exact hI⟩
                    · obtain rfl : n = k := by omega
                      obtain ⟨i1, hi1, hi2⟩ := cnt_ex (n := n) (p := fun y => decide (ti y < 0)) (by rw [← hlft.out]; exact hl0)
                      obtain ⟨j1, hj1⟩ := hu_may (ti := ti) HL.out hi1 (by simpa using hi2)
                      have hj2 : j1 ∈ mayK ti wf n := mayK_mem.2 ⟨hj1.1, hj1.2.1, by rw [hwt.out j1 hj1.1, (wt_zero hj1.1 hj1.2.1).2 hj1]; rfl⟩
                      have hlen0 : 0 < (mayK ti wf n).length := List.length_pos_of_mem hj2
                      have hlen1 := mayK_len ti wf n
                      have hmem : ∀ x ∈ mayK ti wf n, x < n := fun x hx => (mayK_mem.1 hx).1
                      have hnd := mayK_nodup ti wf n
                      obtain ⟨ls, hls⟩ : ∃ ls, ls = mayK ti wf n := ⟨_, rfl⟩
                      have Hls := Lib.hid hls
                      rw [← hls] at hI hlen0 hlen1 hmem hnd
                      have Hmem := Lib.hid hmem
                      have Hnd := Lib.hid hnd
                      rcases hI.out with ⟨_, e⟩ | ⟨g, o, c, N, f, hv, i3, i4, i5, i6, i7, i8, i9⟩
                      · exfalso
                        have := congrArg List.length e
                        rw [ints_len, List.length_nil] at this
                        omega
                      obtain ⟨rfl, hcN, i10⟩ := i9 rfl
                      subst hcN
                      rw [ints_len] at hv i4 i10
                      subst hv
                      have hrowN : wr.rowIs g 3 c (natF (fun i => ls.getD i 0)) := i7.congr (fun i hi => by
                        unfold natF
                        by_cases e : i < ls.length
                        · have := i8 i (ls.getD i 0 : Nat) (by
                            unfold ints
                            rw [List.getElem?_map, List.getD_eq_getElem?_getD, List.getElem?_eq_getElem e]; rfl)
                          rw [Nat.zero_add] at this
                          exact this
                        · rw [i10 i (by omega) hi]
                          show Value.int .i64 0 = .int .i64 ((ls.getD i 0 : Nat) : Int)
                          rw [List.getD_eq_getElem?_getD, List.getElem?_eq_none (by omega)]; rfl)
                      have q7 : p7 < wq.heap.size := World.block_lt_of_cell? _ _ hW.out.c7
                      have hcmp : CmpOk 24 #[.pointer (some ⟨p7, 0, none⟩)] (lcmp lf) n g wr := fun W hO x y hx hy => by
                        show Calls Try.prog 24 #[.int .i64 (x : Nat), .int .i64 (y : Nat), .pointer (some ⟨p7, 0, none⟩)] W _
                        have hsz := hsx.size
                        refine hu2_any (fun i hi => by obtain ⟨z1, z2⟩ := Hlf.out i hi; omega) ?_ ?_ hx hy (bl := bl)
                        · rw [hO.cell (a := ⟨p7, 0, none⟩) (by show p7 < _; omega) (by show p7 ≠ g; omega), hsx.cell (show p7 < wq.heap.size from q7)]
                          exact hW.out.c7
                        · have hbl := hW.out.rl.lt
                          exact (hW.out.rl.of_block (hsx.block _ hbl)).of_block (hO.block _ (by omega) (by omega))
                      have C := Lib.hid (SortStableFunc_any g c ls.length c n (fun i => ls.getD i 0) 24 #[.pointer (some ⟨p7, 0, none⟩)] (lcmp lf) wr enters24 hcmp (pre_lcmp lf n) (fun i hi => Hmem.out _ (by
                        show ls.getD i 0 ∈ ls
                        rw [List.getD_eq_getElem?_getD, List.getElem?_eq_getElem hi]
                        exact List.getElem_mem _)) (by omega) i4 hrowN)
                      clear hcmp hrowN i7 i8 i10 i5 hI hls hmem hnd hj1 hj2 hi1 hi2
                      go_wp2_with fail
                      refine C.out.mono ?_
                      rintro e w5 ⟨rfl, ho5, f', hrow5, hf'⟩
                      have hpk := picked Hnd.out hf'
                      obtain ⟨L, hL⟩ : ∃ L, L = seg f' 0 ls.length := ⟨_, rfl⟩
                      rw [← hL] at hpk
                      have Hpk := Lib.hid hpk
                      have hs5 : wq.Since wq.heap.size w5 := ho5.since hsx i3
                      have HW5 := Lib.hid (hW.out.since' hs5)
                      have HR5 := Lib.hid (hR.out.of_block (hs5.block _ hR.out.lt))
                      have HN5 := Lib.hid hrow5
                      have gb1 : g ≠ bo := by have := hR.out.lt; omega
                      have gb2 : g ≠ bw := by have := hW.out.rw.lt; omega
                      have gb3 : g ≠ bl := by have := hW.out.rl.lt; omega
                      have gb4 : w.heap.size ≤ g := by have := hW.out.since.size; omega
                      clear hpk hL hf' hrow5 ho5 C hsx hW hR c6
                      obtain ⟨q, hq⟩ : ∃ q, q = min m ls.length := ⟨_, rfl⟩
                      have hq1 : q ≤ ls.length := by omega
                      have hq2 : q ≤ m := by omega
                      have hq3 : 0 < q := by omega
                      have Hq := Lib.hid hq
                      clear hq
                      go_upto_region 36 with fail
                      go_cut [125, 126, 127] (fun sv lv' jv wx => sv = .slice (some ⟨g, 0, none⟩) q c ∧ lv' = .int .i64 (q : Int) ∧ jv = .int .i64 0 ∧ w5 = wx)
                      case first => as_aux_lemma =>
                        have hcz : (ls.length : Int) ≤ (c : Int) := by omega
                        by_cases hml : (m : Int) ≤ (ls.length : Int)
                        · have hqm : q = m := by have := Hq.out; omega
                          have hmc : (m : Int) ≤ (c : Int) := by omega
                          have Hqm := Lib.hid hqm
                          clear hqm
                          go_wp2
                          go_meet
                          case rel => rw [Hqm.out]; exact ⟨rfl, rfl, rfl, rfl⟩
                        · have hqm : q = ls.length := by have := Hq.out; omega
                          have hml' : (ls.length : Int) < (m : Int) := by omega
                          have Hqm := Lib.hid hqm
                          clear hqm hml
                          go_wp2
                          go_meet
                          case rel => rw [Hqm.out]; exact ⟨rfl, rfl, rfl, rfl⟩
                      case rest =>
                        obtain ⟨rfl, rfl, rfl, rfl⟩ := hcut
                        -- ITER4
                        have hT0 : Hid (lft = cnt n (fun y => decide (tq L now ti 0 y < 0))) := Lib.hid (by rw [tq_zero]; exact hlft.out)
                        have hR0 : Hid (w5.rowIs bo 3 n (fun x => .int .i64 (tq L now ti 0 x))) := Lib.hid (by rw [tq_zero]; exact HR5.out)
                        have HLm : Hid (∀ j x, L[j]? = some x → x < n ∧ ti x < 0) := Lib.hid (fun j x hx => by
                          have h1 := (Hpk.out.mem x).1 (List.mem_of_getElem? hx)
                          rw [Hls.out] at h1
                          have h2 := mayK_mem.1 h1
                          exact ⟨h2.1, h2.2.1⟩)
                        have hlb : lft ≤ 60 := by omega
                        clear HR5
                        go_wp2
                        go_loopg [14, 127] q (fun gh lv' jv wx => ∃ (j ll : Nat), j ≤ q ∧ gh = q - j ∧ jv = .int .i64 j ∧ lv' = .int .i64 (ll : Int) ∧ ll ≤ 60 ∧ Hid (ll = cnt n (fun y => decide (tq L now ti j y < 0))) ∧ Hid (HuW w wx p6 p7 bl bw n lf wf) ∧ Hid (wx.rowIs bo 3 n (fun x => .int .i64 (tq L now ti j x))) ∧ Hid (wx.rowIs g 3 c (natF f')))
                        case atStart => exact ⟨0, lft, Nat.zero_le _, rfl, rfl, rfl, hlb, hT0, HW5, hR0, HN5⟩
                        case round =>
                          clear hT0 hR0 HW5 HN5 hlb hs5
                          obtain ⟨j, ll, hj, rfl, rfl, rfl, hll, hT, hW, hR, hN⟩ := hrel
                          by_cases hjq : j < q
                          · have hjz : (j : Int) < (q : Int) := by omega
                            have hx := Hpk.out.get j (by omega)
                            obtain ⟨hxn, hxt⟩ := HLm.out j _ hx
                            have c0 := hN.out.cell (i := j) (by omega)
                            unfold natF at c0
                            obtain ⟨x, hxe⟩ : ∃ x, x = f' j := ⟨_, rfl⟩
                            rw [← hxe] at c0 hx hxn hxt
                            have hxz : (x : Int) < (n : Int) := by omega
                            have g0 := hR.out.cell hxn
                            have g1 := hR.out.frozen x
                            have hct := cnt_tq (n := n) (q := fun _ => true) (now := now) (ti := ti) Hpk.out.nodup hx hxn hxt
                            simp only [Bool.true_and, if_true] at hct
                            have hl1 := hT.out
                            rw [hct] at hl1
                            have Hl1 := Lib.hid hl1
                            have hll1 : 1 ≤ ll := by omega
                            have Hx := Lib.hid hx
                            generalize tq L now ti j x = ov at g0
                            clear hxe hx hct hl1
                            go_wp2
                            go_roundg (q - (j + 1))
                            case measure => go_light; omega
                            case rel =>
                              go_light
                              refine ⟨j + 1, ll - 1, by omega, rfl, by go_num, congrArg (Value.int .i64) (by omega), by omega, Lib.hid (by have := Hl1.out; omega), Lib.hid ⟨hW.out.since.setCell (show w.heap.size ≤ bo from m5) _, by rw [World.cell?_setCell_other _ _ _ _ (by first | (simp; done) | (simp; exact fun e => absurd e.symm m1))]; exact hW.out.c6, by rw [World.cell?_setCell_other _ _ _ _ (by first | (simp; done) | (simp; exact fun e => absurd e.symm m2))]; exact hW.out.c7, hW.out.rl.setOther (a := ⟨bo, x, none⟩) m3 _, hW.out.rw.setOther (a := ⟨bo, x, none⟩) m4 _⟩, Lib.hid ((hR.out.set x _).congr (fun y hy => ?_)), Lib.hid (hN.out.setOther (a := ⟨bo, x, none⟩) gb1 _)⟩
                              rw [tq_succ Hx.out]
                              by_cases e : y = x
                              · simp [e]
                              · simp [e]
                          · obtain rfl : q = j := by omega
                            -- the second loop
                            go_upto_region 42 with fail
                            go_cut [143, 144, 145] (fun sv lv' jv wx => sv = .slice (some ⟨g, 0, none⟩) q c ∧ lv' = .int .i64 (q : Int) ∧ jv = .int .i64 0 ∧ wr = wx)
                            case first => as_aux_lemma =>
                              have hcz : (ls.length : Int) ≤ (c : Int) := by omega
                              by_cases hml : (m : Int) ≤ (ls.length : Int)
                              · have hqm : q = m := by have := Hq.out; omega
                                have hmc : (m : Int) ≤ (c : Int) := by omega
                                have Hqm := Lib.hid hqm
                                clear hqm
                                go_wp2
                                go_meet
                                case rel => rw [Hqm.out]; exact ⟨rfl, rfl, rfl, rfl⟩
                              · have hqm : q = ls.length := by have := Hq.out; omega
                                have hml' : (ls.length : Int) < (m : Int) := by omega
                                have Hqm := Lib.hid hqm
                                clear hqm hml
                                go_wp2
                                go_meet
                                case rel => rw [Hqm.out]; exact ⟨rfl, rfl, rfl, rfl⟩
                            case rest =>
                              obtain ⟨rfl, rfl, rfl, rfl⟩ := hcut
                              have hw0 : Hid (∀ k, k < n → wf k = (wt n (nf nx) (tq L now ti 0) k : Nat)) := Lib.hid (by rw [tq_zero]; exact hwt.out)
                              go_wp2
                              go_loopg [145] q (fun gh jv wx => ∃ (j : Nat) (wf' : Nat → Int), j ≤ q ∧ gh = q - j ∧ jv = .int .i64 j ∧ Hid (∀ k, k < n → wf' k = (wt n (nf nx) (tq L now ti j) k : Nat)) ∧ Hid (HuW w wx p6 p7 bl bw n lf wf') ∧ Hid (wx.rowIs bo 3 n (fun x => .int .i64 (tq L now ti q x))) ∧ Hid (wx.rowIs g 3 c (natF f')))
                              case atStart => exact ⟨0, wf, Nat.zero_le _, rfl, rfl, hw0, hW, hR, hN⟩
                              case round =>
                                clear hw0 hW hR hN
                                obtain ⟨j, wf', hj, rfl, rfl, hwj, hW, hR, hN⟩ := hrel
                                by_cases hjq : j < q
                                · have hjz : (j : Int) < (q : Int) := by omega
                                  have hx := Hpk.out.get j (by omega)
                                  obtain ⟨hxn, hxt⟩ := HLm.out j _ hx
                                  have c0 := hN.out.cell (i := j) (by omega)
                                  unfold natF at c0
                                  obtain ⟨x, hxe⟩ : ∃ x, x = f' j := ⟨_, rfl⟩
                                  rw [← hxe] at c0 hx hxn hxt
                                  have hxz : (x : Int) < (n : Int) := by omega
                                  obtain ⟨bA, oA, rfl, hbA, hcA⟩ := HX.out x hxn
                                  have f0 := hcA x hxn
                                  rw [← hW.out.since.cell (show bA < w.heap.size from hbA)] at f0
                                  obtain ⟨r0, r1⟩ := Hr.out x hxn
                                  have hct : ∀ k : Nat, wt n (nf nx) (tq L now ti j) k = wt n (nf nx) (tq L now ti (j + 1)) k + if nf nx x = (k : Int) then 1 else 0 := fun k => by
                                    have := cnt_tq (n := n) (q := fun y => decide (nf nx y = (k : Int))) (now := now) (ti := ti) Hpk.out.nodup hx hxn hxt
                                    simpa [wt] using this
                                  have Hct := Lib.hid hct
                                  have Hx := Lib.hid hx
                                  obtain ⟨y, hy⟩ : ∃ y, nf nx x = y := ⟨_, rfl⟩
                                  rw [hy] at f0 r0 r1 Hct
                                  clear hxe hx hct hcA hy
                                  by_cases hy0 : 0 ≤ y
                                  · obtain ⟨k, rfl⟩ : ∃ k : Nat, y = (k : Int) := ⟨y.toNat, by omega⟩
                                    have hkn : k < n := by omega
                                    have hkz : (k : Int) < (n : Int) := by omega
                                    have g0 := hW.out.rw.cell hkn
                                    have g1 := hW.out.rw.frozen k
                                    have hv := hwj.out k hkn
                                    have hc2 := Hct.out k
                                    rw [if_pos rfl] at hc2
                                    have hbt : wt n (nf nx) (tq L now ti j) k ≤ n := cnt_total
                                    obtain ⟨z, hz⟩ : ∃ z, z = wf' k := ⟨_, rfl⟩
                                    rw [← hz] at g0 hv
                                    have z0 : 1 ≤ z := by omega
                                    have z1 : z ≤ 60 := by omega
                                    have Hv := Lib.hid hv
                                    clear hv hc2 hbt hz
                                    go_wp2
                                    go_roundg (q - (j + 1))
                                    case measure => go_light; omega
                                    case rel =>
                                      go_light
                                      refine ⟨j + 1, _, by omega, rfl, by go_num, Lib.hid (fun i hi => ?_), Lib.hid (hW.out.setw hA.out k (z - 1)), Lib.hid (hR.out.setOther (a := ⟨bw, k, none⟩) (fun e => m4 e.symm) _), Lib.hid (hN.out.setOther (a := ⟨bw, k, none⟩) gb2 _)⟩
                                      have h1 := Hct.out i
                                      by_cases e : i = k
                                      · subst e
                                        rw [if_pos rfl] at h1
                                        have h2 := Hv.out
                                        simp only [if_true]
                                        omega
                                      · rw [if_neg (by omega)] at h1
                                        simp only [e, if_false]
                                        rw [hwj.out i hi]; omega
                                  · have hy0' : y < 0 := by omega
                                    go_wp2
                                    go_roundg (q - (j + 1))
                                    case measure => go_light; omega
                                    case rel =>
                                      go_light
                                      refine ⟨j + 1, wf', by omega, rfl, by go_num, Lib.hid (fun i hi => ?_), hW, hR, hN⟩
                                      have h1 := Hct.out i
                                      rw [if_neg (by omega)] at h1
                                      rw [hwj.out i hi]; omega
                                · obtain rfl : q = j := by omega
                                  have HS2 : Hid (HuSt n m (nf nx) (lvF nx n) (now + 1) (tq L now ti q)) := Lib.hid (by
                                    have := hu_next (L := L) (f := f') hS.out hwt.out (fun i hi => (Hlf.out i hi).1) (by rw [← Hls.out]; exact Hpk.out) (by omega) (by rw [← Hls.out]; omega)
                                    rw [← Hls.out, ← Hq.out] at this
                                    exact this)
                                  have hlt : ll < lft := by
                                    have h1 := hT.out
                                    have h2 := hlft.out
                                    obtain ⟨hxn, hxt⟩ := HLm.out 0 _ (Hpk.out.get 0 (by omega))
                                    have h3 : cnt n (fun y => decide (tq L now ti q y < 0)) < cnt n (fun y => decide (ti y < 0)) := cnt_lt (j := f' 0) (fun i hi hp => by
                                      simp at hp ⊢
                                      unfold tq at hp
                                      split at hp
                                      · omega
                                      · exact hp) hxn (by simpa using hxt) (by
                                      have h0 := Hpk.out.get 0 (by omega)
                                      have hm0 : f' 0 ∈ L.take q := List.mem_of_getElem? (i := 0) (by rw [List.getElem?_take, if_pos (by omega)]; exact h0)
                                      unfold tq
                                      rw [if_pos hm0]
                                      simp)
                                    omega
                                  have hnz : (now : Int) + 1 ≤ 61 := by omega
                                  go_wp2
                                  go_roundg ll
                                  case measure => go_light; omega
                                  case rel =>
                                    go_light
                                    exact ⟨ll, now + 1, tq L now ti q, wf', by omega, rfl, rfl, by go_num, HS2, hT, hwj, hW, hR⟩
                · obtain rfl : lft = 0 := by omega
                  have hall : ∀ i, i < n → 0 ≤ ti i := fun i hi => by
                    apply Classical.byContradiction
                    intro hno
                    have := cnt_pos (p := fun y => decide (ti y < 0)) hi (by simp; omega)
                    have := hlft.out
                    omega
                  have Hall := Lib.hid hall
                  clear hall
                  go_wp2
                  go_ret2
                  exact ⟨hW.out.since, .inr ⟨bo, ti, m, now, by rw [← Hn.out]; rfl, rfl, by omega, by omega, by rw [← Hn.out]; exact p3', by rw [← Hn.out]; exact hR.out, by
                    refine ⟨?_, ?_, ?_, ?_, ?_⟩ <;> rw [← Hn.out]
                    · exact Hr.out
                    · exact fun i hi => hlv.out i hi
                    · exact hS.out
                    · exact Hall.out
                    · omega⟩⟩
end Go.Proofs.Ytjndmehhdgiphaa
