/- path: the walk of PathLittle. -/
import Derived.Test.YtekjddcckkelnaaW10
import Derived.Deep.AppendLies
import Derived.Deep.RegionHeld3
namespace Go.Proofs.Ytekjddcckkelnaa
open Go.RowKit PathM

def timesL (a e : Nat → Int) (k : Nat) : List Int := (List.range k).flatMap fun i => [a i, e i]
theorem timesL_snoc (a e : Nat → Int) (k : Nat) : timesL a e (k + 1) = timesL a e k ++ [a k, e k] := by
  unfold timesL
  rw [List.range_succ, List.flatMap_append]; rfl
theorem timesL_len (a e : Nat → Int) : ∀ k, (timesL a e k).length = 2 * k
  | 0 => rfl
  | k + 1 => by rw [timesL_snoc, List.length_append, timesL_len a e k]; simp; omega
theorem timesL_mem {a e : Nat → Int} {n : Nat} {y : Int} (h : y ∈ timesL a e n) : ∃ i, i < n ∧ (y = a i ∨ y = e i) := by
  unfold timesL at h
  obtain ⟨i, hi, hy⟩ := List.mem_flatMap.1 h
  exact ⟨i, List.mem_range.1 hi, by simpa using hy⟩
theorem mem_timesL {a e : Nat → Int} {n i : Nat} (h : i < n) : a i ∈ timesL a e n ∧ e i ∈ timesL a e n := by
  unfold timesL
  exact ⟨List.mem_flatMap.2 ⟨i, List.mem_range.2 h, by simp⟩, List.mem_flatMap.2 ⟨i, List.mem_range.2 h, by simp⟩⟩
/-- what job k adds at the i-th time -/
def term (L : List Int) (a e : Nat → Int) (i k : Nat) : Int :=
  if firstB L i = true ∧ decide (a k ≤ L.getD i 0 ∧ L.getD i 0 < e k) = true then nextOf L (L.getD i 0) - L.getD i 0 else 0
theorem sumL_swap (f : Nat → Nat → Int) (m : Nat) : ∀ n, sumL (fun i => sumL (f i) (List.range n)) (List.range m) = sumL (fun k => sumL (fun i => f i k) (List.range m)) (List.range n)
  | 0 => by
    have : ∀ l : List Nat, sumL (fun i => sumL (f i) (List.range 0)) l = 0 := fun l => by
      induction l with
      | nil => rfl
      | cons x l ih => rw [sumL_cons, ih]; rfl
    rw [this]; rfl
  | n + 1 => by
    rw [sumL_snoc, ← sumL_swap f m n]
    have : ∀ l : List Nat, sumL (fun i => sumL (f i) (List.range (n + 1))) l = sumL (fun i => sumL (f i) (List.range n)) l + sumL (fun i => f i n) l := fun l => by
      induction l with
      | nil => rfl
      | cons x l ih => rw [sumL_cons, sumL_cons, sumL_cons, ih, sumL_snoc]; omega
    exact this _
theorem little {a e : Nat → Int} {n : Nat} (ha : ∀ i, i < n → 0 ≤ a i ∧ a i ≤ e i) : sumL (fun i => sumL (term (timesL a e n) a e i) (List.range n)) (List.range (2 * n)) = sumL (fun k => e k - a k) (List.range n) := by
  rw [sumL_swap]
  refine sumL_congr (fun k hk => ?_)
  have hk' := List.mem_range.1 hk
  have hL : ∀ y ∈ timesL a e n, 0 ≤ y := fun y hy => by
    obtain ⟨i, hi, h⟩ := timesL_mem hy
    have := ha i hi
    omega
  have hm := mem_timesL (a := a) (e := e) hk'
  have h1 := little_one (timesL a e n) hL (e k) hm.2 _ (a k) hm.1 (ha k hk').2 (Nat.le_refl _)
  rw [← h1, ← timesL_len a e n]
  rfl
theorem term_bd {L : List Int} {B : Int} (hB : 0 ≤ B) (hL : ∀ y ∈ L, 0 ≤ y ∧ y ≤ B) {a e : Nat → Int} {i k : Nat} (hi : i < L.length) (he : e k ∈ L) : 0 ≤ term L a e i k ∧ term L a e i k ≤ B := by
  unfold term
  split
  · rename_i h
    have h2 := of_decide_eq_true h.2
    have hx : L.getD i 0 ∈ L := by rw [List.getD_eq_getElem?_getD, List.getElem?_eq_getElem hi]; exact List.getElem_mem _
    have hxb := hL _ hx
    rcases nextOf_spec (L.getD i 0) L (fun y hy => (hL y hy).1) with ⟨_, h3⟩ | ⟨h3, h4, _, _⟩
    · have := h3 _ he; omega
    · have := hL _ h3; omega
  · omega
theorem terms_bd {f : Nat → Int} {B : Int} : ∀ (n : Nat), (∀ i, i < n → 0 ≤ f i ∧ f i ≤ B) → 0 ≤ sumL f (List.range n) ∧ sumL f (List.range n) ≤ B * (n : Int)
  | 0, _ => by simp [sumL]
  | n + 1, h => by
    have h1 := terms_bd n (fun i hi => h i (by omega))
    have h2 := h n (by omega)
    rw [sumL_snoc]
    have e : B * ((n + 1 : Nat) : Int) = B * (n : Int) + B := by rw [Int.natCast_add, Int.mul_add]; simp
    rw [e]; omega
/-- the ends' list, as PathLittle has it -/
structure LittleAt (js : List Job) (e : Nat → Int) : Prop where
  a : ∀ i, i < js.length → 0 ≤ atJ js i ∧ atJ js i ≤ e i
  b : ∀ i, i < js.length → e i ≤ 61000000000
theorem little_at {js : List Job} {rule : Int} {o : Pieces} (hok : JobsOk js) (h : Ran js rule o) : LittleAt js (endOf o) := by
  have hJ := Jobs_of hok
  refine ⟨fun i hi => ⟨hJ.zero i hi, ?_⟩, fun i _ => (end_bd h i).2⟩
  have h1 := S_ge (At := atJ js) (Sz := szJ js) i
  have h2 : F (atJ js) (szJ js) (i + 1) ≤ F (atJ js) (szJ js) js.length := F_mono hJ.size (by omega) (Nat.le_refl _)
  have h3 := F_succ (At := atJ js) (Sz := szJ js) i
  have h4 := hJ.size i hi
  have := h.full.end_ge hJ hi (by omega)
  omega
theorem times_bd {js : List Job} {e : Nat → Int} (h : LittleAt js e) {k : Nat} (hk : k ≤ js.length) : ∀ y ∈ timesL (atJ js) e k, 0 ≤ y ∧ y ≤ 61000000000 := fun y hy => by
  obtain ⟨i, hi, hh⟩ := timesL_mem hy
  have := h.a i (by omega)
  have := h.b i (by omega)
  omega
def intV (x : Int) : Value := .int .i64 x
theorem first_snoc {L : List Int} {i k : Nat} (hk : k < L.length) : (!(L.take (min (k + 1) i)).contains (L.getD i 0)) = ((!(L.take (min k i)).contains (L.getD i 0)) && (decide (i ≤ k) || (L.getD k 0 != L.getD i 0))) := by
  by_cases h : i ≤ k
  · rw [show min (k + 1) i = i by omega, show min k i = i by omega, decide_eq_true h]; simp
  · have hx : L[k]? = some (L.getD k 0) := by rw [List.getD_eq_getElem?_getD, List.getElem?_eq_getElem hk]; rfl
    rw [show min (k + 1) i = k + 1 by omega, show min k i = k by omega, decide_eq_false h, take_snoc' hx, Bool.eq_iff_iff]
    simp only [List.contains_eq_mem, List.mem_append, List.mem_singleton, Bool.not_eq_true', decide_eq_false_iff_not, Bool.and_eq_true, Bool.false_or, bne_iff_ne, ne_eq, not_or]
    constructor
    · rintro ⟨h1, h2⟩; exact ⟨h1, fun e => h2 e.symm⟩
    · rintro ⟨h1, h2⟩; exact ⟨h1, fun e => h2 e.symm⟩
theorem two_new (w : World) (a b : Value) (t : TypeId) : ∀ (j : Nat) (x : Value), [a, b][j]? = some x → (w.alloc (.cells #[a, b] t)).cell? ((⟨w.heap.size, 0, none⟩ : Addr).add j) = some x := by
  intro j x hx
  rw [show (⟨w.heap.size, 0, none⟩ : Addr).add j = ⟨w.heap.size, j, none⟩ by unfold Addr.add; split <;> simp_all, World.cell?_alloc_at _ _ _ _ rfl]
  simpa using hx
set_option maxHeartbeats 8000000 in
set_option maxRecDepth 100000 in
theorem little_any {A : Option Addr} {cap : Nat} {js : List Job} {i1 : Int} {w : World} (h : JobsAt w A js) (hlen : js.length ≤ 9223372036854775807) :
    Calls Try.prog 3 #[.slice A js.length cap, .int .i64 i1] w (TruePost w) := by
  by_cases p1 : 25 < js.length
  · go_enter Try.func3, Try.ntmps3
    go_wp2
    go_ret
    exact ⟨rfl, World.Since.refl _ _⟩
  have p2 : js.length ≤ 25 := by omega
  have pd : decide ((25 : Int) < (js.length : Int)) = false := decide_eq_false (by omega)
  have pd2 : decide (25 < js.length) = false := decide_eq_false (by omega)
  have hpk := pickF_bd i1 6 (by omega)
  have C1 := fun W => pick_any i1 6 W (by omega) (by omega)
  obtain ⟨r, hr⟩ : ∃ r, r = pickF i1 6 := ⟨_, rfl⟩
  rw [← hr] at hpk
  simp only [← hr] at C1
  have D1 := Lib.hid C1
  have HJ := Lib.hid h
  clear p1 C1 hr h
  by_cases hok : JobsOk js
  · have HO := Lib.hid hok
    clear hok
    obtain ⟨i0, hi0, hz0, hz1, hz2⟩ := info_parts info_int
    have Hi0 := Lib.hid hi0
    have Hz0 := Lib.hid hz0
    have Hz1 := Lib.hid hz1
    have Hz2 := Lib.hid hz2
    clear hi0 hz0 hz1 hz2
    go_enter Try.func3, Try.ntmps3
    go_wp2_with fail
    refine (D1.out _).mono ?_
    rintro e w' ⟨rfl, rfl⟩
    go_wp2_with fail
    refine (Run_ok2 A cap js (1 + r) w HJ.out HO.out (by omega) (by omega)).mono ?_
    rintro e w1 ⟨hs1, o1, A1, cap1, R1, rfl, P1⟩
    have HR1 := Lib.hid R1
    have HP1 := Lib.hid P1
    clear R1 P1
    go_wp2_with fail
    refine (served_any _).mono ?_
    rintro e w2 ⟨rfl, hs2⟩
    have hs12 := since_join hs1 hs2
    go_wp2_with fail
    refine (Ends_any A cap js.length A1 cap1 o1 w2 (by omega) (HP1.out.since (Nat.le_refl _) hs2) HR1.out.may HR1.out.len).mono ?_
    rintro e w3 ⟨hs3, g1, rfl, hg1, row1⟩
    have hs13 := since_join hs12 hs3
    have HJ3 := Lib.hid (jobs_same HJ.out hs13)
    obtain ⟨en, hen⟩ : ∃ en, en = endOf o1 := ⟨_, rfl⟩
    rw [← hen] at row1
    have HL : Hid (LittleAt js en) := Lib.hid (by rw [hen]; exact little_at HO.out HR1.out)
    have hg1lt := row1.lt
    have HRow := Lib.hid row1
    clear hen HR1 HP1 hs1 hs2 hs3 hs12 hg1 row1
    go_wp2
    go_loopg [8, 10, 11] js.length (fun g sv tv iv wr => ∃ (k : Nat) (v : Int), k ≤ js.length ∧ g = js.length - k ∧ iv = .int .i64 k ∧ sv = .int .i64 v ∧ Hid (v = sumL (fun k => en k - atJ js k) (List.range k)) ∧ w3.Since w3.heap.size wr ∧ wr.ownsRow w3.heap.size 3 1 tv (2 * k) ((timesL (atJ js) en k).map intV))
    case atStart => exact ⟨0, 0, Nat.zero_le _, rfl, rfl, rfl, Lib.hid (by simp [sumL]), World.Since.refl _ _, World.ownsRow_nil _ _ _ _⟩
    case round =>
      rename_i tv
      obtain ⟨k, v, hk, rfl, rfl, rfl, hv, hs, hown⟩ := hrel
      obtain ⟨A5, cap5, rfl, hcap5, _⟩ := own_form hown
      by_cases hkl : k < js.length
      · have hkz : (k : Int) < (js.length : Int) := by omega
        obtain ⟨b, off, rfl, hb, hc⟩ := HJ3.out k hkl
        obtain ⟨x, hx⟩ : ∃ x, js[k]? = some x := ⟨js[k], List.getElem?_eq_getElem hkl⟩
        obtain ⟨c0, _, _⟩ := hc k x hx
        rw [← hs.cell (show b < w3.heap.size from hb)] at c0
        have hxj := (jobAt hx).1
        have q1 := HRow.out.cell hkl
        rw [← hs.cell (a := ⟨g1, k, none⟩) hg1lt] at q1
        have ha := HL.out.a k hkl
        have hb1 := HL.out.b k hkl
        have hvv := hv.out
        have n1 := sumL_snoc (fun k => en k - atJ js k) k
        have n2 := terms_bd (f := fun k => en k - atJ js k) (B := 61000000000) k (fun i hi => by
          have := HL.out.a i (by omega)
          have := HL.out.b i (by omega)
          omega)
        have hts := timesL_snoc (atJ js) en k
        rw [hxj] at ha n1 hts
        obtain ⟨ek, hek⟩ : ∃ z, z = en k := ⟨_, rfl⟩
        rw [← hek] at q1 ha hb1 n1 hts
        generalize x.1 = x1 at *
        have Hts := Lib.hid hts
        have hv1 : 0 ≤ v + (ek - x1) := by omega
        have hv2 : v + (ek - x1) ≤ 2000000000000 := by omega
        have Hn : Hid (v + (ek - x1) = sumL (fun k => en k - atJ js k) (List.range (k + 1))) := Lib.hid (by omega)
        clear hvv n1 n2 hts hek hx hc hxj
        have hsz := hs.size
        go_wp2
        go_quiet (fail)
        have hs2 := since_drewN hs nq
        have hown2 : (wr.drewN nq).ownsRow w3.heap.size 3 1 (.slice A5 (2 * k) cap5) (2 * k) ((timesL (atJ js) en k).map intV) := hown
        have c0' : (wr.drewN nq).cell? ⟨b, off + k * 3, none⟩ = some (.int .i64 x1) := c0
        have q1' : (wr.drewN nq).cell? ⟨g1, k, none⟩ = some (.int .i64 ek) := q1
        clear hs hown c0 q1 hsz
        generalize wr.drewN nq = wd at *
        have hsz := hs2.size
        go_wp2
        have nb1 : (Value.slice A5 (2 * k) cap5).ownBlock ≠ some b := own_below hown2 hb
        have nb2 : (Value.slice A5 (2 * k) cap5).ownBlock ≠ some g1 := own_below hown2 hg1lt
        have hb' : b < wd.heap.size := by omega
        have hg1' : g1 < wd.heap.size := by omega
        go_region_held3 (fun w' => w'.cell? ⟨b, off + k * 3, none⟩ = some (.int .i64 x1) ∧ w'.cell? ⟨g1, k, none⟩ = some (.int .i64 ek))
          (first
            | go_keep
            | (go_split_ands
               refine ⟨?_, ?_⟩
               · (rw [hgrow.cell_far _ (by simp; omega) (Ne.symm nb1)]; assumption)
               · (rw [hgrow.cell_far _ (by simp; omega) (Ne.symm nb2)]; assumption)))
          ((refine step_append_lies _ (by rfl) _ _ _ (by rfl) w3.heap.size 3 i0 (.int .i64 0) 1 8 Try.underlying30 Hi0.out Hz0.out Hz1.out Hz2.out rfl (by omega) (.slice A5 (2 * k) cap5) (2 * k) ((timesL (atJ js) en k).map intV) (by rfl) ((hown2.alloc _).drew)
              ⟨wd.heap.size, 0, none⟩ 2 2 [.int .i64 x1, .int .i64 ek] (by rfl) (by rfl) (World.news_of_block (cs := #[.int .i64 x1, .int .i64 ek]) (t := 3) (fr := (0, 0)) (heap_alloc_new wd _)) (by simp [Value.oneCell'])
              (by omega) (by unfold maxLen; omega) (by omega) (by simp; omega) (wd.heap.size + 1) (by simp) ?_; intro gg capg w8 hown8 hgrow hat hlt))
        have hg8 : (wd.alloc (Obj.cells #[Value.int .i64 x1, Value.int .i64 ek] 3)).grownBy w8 (Value.slice A5 (2 * k) cap5).ownBlock := ⟨hgrow.os, hgrow.tape, hgrow.output, hgrow.size, hgrow.block⟩
        have hs4 := hs2.alloc hsz (Obj.cells #[Value.int .i64 x1, Value.int .i64 ek] 3)
        have hown4 := hown2.alloc (Obj.cells #[Value.int .i64 x1, Value.int .i64 ek] 3)
        have hs8 := own_grown hs4 hown4 hg8 (by simp; omega)
        go_wp2
        go_roundg (js.length - (k + 1))
        case measure => go_light; omega
        case rel =>
          go_light
          refine ⟨k + 1, _, by omega, rfl, by go_num, rfl, Hn, hs8, ?_⟩
          rw [Hts.out, List.map_append, show 2 * (k + 1) = 2 * k + 2 by omega]
          exact hown8
      · obtain rfl : js.length = k := by omega
        -- ITER
        obtain ⟨L, hLe⟩ : ∃ L, L = timesL (atJ js) en js.length := ⟨_, rfl⟩
        have hLl : L.length = 2 * js.length := by rw [hLe]; exact timesL_len _ _ _
        have hTI : IntsAt wr A5 L := own_ints (ys := L) (by rw [hLe]; exact hown) rfl
        have hLb : ∀ y ∈ L, 0 ≤ y ∧ y ≤ 61000000000 := by rw [hLe]; exact times_bd HL.out (Nat.le_refl _)
        have hLm : ∀ k, k < js.length → en k ∈ L := fun k hk => by rw [hLe]; exact (mem_timesL hk).2
        have htot : sumL (fun i => sumL (term L (atJ js) en i) (List.range js.length)) (List.range (2 * js.length)) = v := by
          rw [hv.out, hLe]; exact little HL.out.a
        have hvb : 0 ≤ v ∧ v ≤ 61000000000 * (js.length : Int) := by
          rw [hv.out]
          exact terms_bd js.length (fun i hi => by
            have := HL.out.a i hi
            have := HL.out.b i hi
            omega)
        have HJ4 := Lib.hid (jobs_same HJ3.out hs)
        have hrow4 := HRow.out.of_block (hs.block _ hg1lt)
        have HR4 := Lib.hid hrow4
        have HTI := Lib.hid hTI
        have HLl := Lib.hid hLl
        have HLb := Lib.hid hLb
        have HLm := Lib.hid hLm
        have Htot := Lib.hid htot
        have hs14 := since_join hs13 hs
        have hsp : ∀ m i, i < 2 * js.length → m ≤ js.length → 0 ≤ sumL (term L (atJ js) en i) (List.range m) ∧ sumL (term L (atJ js) en i) (List.range m) ≤ 61000000000 * (m : Int) := fun m i hi hm =>
          terms_bd (f := term L (atJ js) en i) (B := 61000000000) m (fun k hk => term_bd (by omega) hLb (by omega) (hLm k (by omega)))
        have HSp := Lib.hid hsp
        clear hsp hrow4 hTI hLl hLb hLm htot hLe hown hs HJ3 HRow
        go_wp2
        go_loopg [9, 12] (2 * js.length) (fun g av iv wy => ∃ (i m : Nat) (u : Int), i ≤ 2 * js.length ∧ g = 2 * js.length - i ∧ iv = .int .i64 i ∧ av = .int .i64 u ∧ Hid (u = sumL (fun i => sumL (term L (atJ js) en i) (List.range js.length)) (List.range i)) ∧ wy = wr.drewN m)
        case atStart => exact ⟨0, 0, 0, Nat.zero_le _, rfl, rfl, rfl, Lib.hid (by simp [sumL]), rfl⟩
        case round =>
          obtain ⟨i, m, u, hi, rfl, rfl, rfl, hu, rfl⟩ := hrel
          by_cases hil : i < 2 * js.length
          · have hLn := HLl.out
            have hilz : (i : Int) < (2 : Int) * (js.length : Int) := by omega
            have hilz2 : (i : Int) < ((2 * js.length : Nat) : Int) := by omega
            obtain ⟨b5, off5, rfl, hb5, hc5⟩ := HTI.out i (by omega)
            obtain ⟨x, hx⟩ : ∃ x, L[i]? = some x := ⟨L[i], List.getElem?_eq_getElem (by omega)⟩
            have cx := hc5 i x hx
            have hxd : L.getD i 0 = x := by rw [List.getD_eq_getElem?_getD, hx]; rfl
            have Hc5 := Lib.hid hc5
            have Hx := Lib.hid hx
            have Hxd := Lib.hid hxd
            have hxb := HLb.out x (List.mem_of_getElem? hx)
            clear hc5 hx hxd
            have hn50 : 2 * js.length ≤ 50 := by omega
            generalize hn2 : 2 * js.length = n2 at *
            have Hn2 := Lib.hid hn2
            clear hn2
            go_wp2
            go_loopg [13, 14, 15] n2 (fun g nv fv kv wy => ∃ (k m' : Nat) (nx : Int) (fb : Bool), k ≤ n2 ∧ g = n2 - k ∧ kv = .int .i64 k ∧ nv = .int .i64 nx ∧ fv = .bool fb ∧ Hid (nx = nextOf (L.take k) x ∧ fb = !(L.take (min k i)).contains x) ∧ wy = wr.drewN m')
            case atStart => exact ⟨0, m, -1, true, Nat.zero_le _, rfl, rfl, rfl, rfl, Lib.hid ⟨rfl, by simp⟩, rfl⟩
            case round =>
              obtain ⟨k, m', nx, fb, hk, rfl, rfl, rfl, rfl, hnf, rfl⟩ := hrel
              by_cases hkl : k < n2
              · have hkz : (k : Int) < (n2 : Int) := by omega
                obtain ⟨y, hy⟩ : ∃ y, L[k]? = some y := ⟨L[k], List.getElem?_eq_getElem (by omega)⟩
                have cy := Hc5.out k y hy
                have Hy := Lib.hid hy
                clear hy
                obtain ⟨nx2, hnx2⟩ : ∃ z, z = (if x < y ∧ (nx < 0 ∨ y < nx) then y else nx) := ⟨_, rfl⟩
                obtain ⟨fb2, hfb2⟩ : ∃ z, z = (fb && (decide (i ≤ k) || (y != x))) := ⟨_, rfl⟩
                obtain ⟨t, ht⟩ : ∃ z, z = decide (x < y ∧ (nx < 0 ∨ y < nx)) := ⟨_, rfl⟩
                have Hnx2 := Lib.hid hnx2
                have Hfb2 := Lib.hid hfb2
                have Ht := Lib.hid ht
                clear hnx2 hfb2 ht
                go_upto_region 25 with fail
                go_cut [111] (fun v wx => v = .bool t ∧ ∃ q, wx = wr.drewN q)
                case first => as_aux_lemma =>
                  by_cases h1 : x < y
                  · by_cases h2 : nx < 0
                    · have htt : t = true := by rw [Ht.out, decide_eq_true ⟨h1, .inl h2⟩]
                      go_wp2
                      go_quiet (fail)
                      go_wp2
                      go_meet
                      case rel => exact ⟨by rw [htt], m' + nq, World.drewN_drewN _ _ _⟩
                    · have h2f : decide (nx < 0) = false := decide_eq_false h2
                      by_cases h3 : y < nx
                      · have htt : t = true := by rw [Ht.out, decide_eq_true ⟨h1, .inr h3⟩]
                        go_wp2
                        go_quiet (fail)
                        go_wp2
                        go_meet
                        case rel => exact ⟨by rw [htt], m' + nq, World.drewN_drewN _ _ _⟩
                      · have h3f : decide (y < nx) = false := decide_eq_false h3
                        have htt : t = false := by rw [Ht.out, decide_eq_false (fun h => by rcases h.2 with h | h <;> contradiction)]
                        go_wp2
                        go_quiet (fail)
                        go_wp2
                        go_meet
                        case rel => exact ⟨by rw [htt], m' + nq, World.drewN_drewN _ _ _⟩
                  · have h1f : decide (x < y) = false := decide_eq_false h1
                    have htt : t = false := by rw [Ht.out, decide_eq_false (fun h => h1 h.1)]
                    go_wp2
                    go_quiet (fail)
                    go_wp2
                    go_meet
                    case rel => exact ⟨by rw [htt], m' + nq, World.drewN_drewN _ _ _⟩
                case rest =>
                obtain ⟨rfl, q, rfl⟩ := hcut
                go_upto_if 111 with fail
                go_cut [13] (fun v wx => v = .int .i64 nx2 ∧ wx = wr.drewN q)
                case first => as_aux_lemma =>
                  cases t with
                  | true =>
                    have h1 := Ht.out
                    have h2 : nx2 = y := by rw [Hnx2.out, if_pos (of_decide_eq_true h1.symm)]
                    have H1 := Lib.hid h1
                    have H2 := Lib.hid h2
                    clear h1 h2
                    go_wp2
                    go_meet
                    case rel => exact ⟨by rw [H2.out], rfl⟩
                  | false =>
                    have h1 := Ht.out
                    have h2 : nx2 = nx := by rw [Hnx2.out, if_neg (of_decide_eq_false h1.symm)]
                    have H1 := Lib.hid h1
                    have H2 := Lib.hid h2
                    clear h1 h2
                    go_wp2
                    go_meet
                    case rel => exact ⟨by rw [H2.out], rfl⟩
                case rest =>
                obtain ⟨rfl, rfl⟩ := hcut
                have hyd : L.getD k 0 = y := by rw [List.getD_eq_getElem?_getD, Hy.out]; rfl
                have hend : nx2 = nextOf (L.take (k + 1)) x ∧ fb2 = !(L.take (min (k + 1) i)).contains x := by
                  constructor
                  · rw [Hnx2.out, hnf.out.1, take_snoc' Hy.out, nextOf_snoc]
                  · have := first_snoc (L := L) (i := i) (k := k) (by omega)
                    rw [Hxd.out, hyd] at this
                    rw [this, Hfb2.out, hnf.out.2]
                have Hend := Lib.hid hend
                clear hend hyd
                cases fb with
                | false =>
                  have h1 : fb2 = false := by rw [Hfb2.out]; rfl
                  have H1 := Lib.hid h1
                  clear h1
                  go_wp2
                  go_quiet (fail)
                  go_wp2
                  go_roundg (n2 - (k + 1))
                  case measure => go_light; omega
                  case rel =>
                    go_light
                    exact ⟨k + 1, _, nx2, false, by omega, rfl, by go_num, rfl, rfl, Lib.hid ⟨Hend.out.1, by rw [← Hend.out.2, H1.out]⟩, rfl⟩
                | true =>
                  by_cases hik : i ≤ k
                  · have hikz : (i : Int) ≤ (k : Int) := by omega
                    have h1 : fb2 = true := by rw [Hfb2.out, decide_eq_true hik]; rfl
                    have H1 := Lib.hid h1
                    clear h1
                    go_wp2
                    go_quiet (fail)
                    go_wp2
                    go_roundg (n2 - (k + 1))
                    case measure => go_light; omega
                    case rel =>
                      go_light
                      exact ⟨k + 1, _, nx2, true, by omega, rfl, by go_num, rfl, rfl, Lib.hid ⟨Hend.out.1, by rw [← Hend.out.2, H1.out]⟩, rfl⟩
                  · have hikf : decide (i ≤ k) = false := decide_eq_false hik
                    have h1 : fb2 = (y != x) := by rw [Hfb2.out, hikf]; rfl
                    have H1 := Lib.hid h1
                    clear h1
                    go_wp2
                    go_quiet (fail)
                    go_wp2
                    go_roundg (n2 - (k + 1))
                    case measure => go_light; omega
                    case rel =>
                      go_light
                      exact ⟨k + 1, _, nx2, (y != x), by omega, rfl, by go_num, rfl, rfl, Lib.hid ⟨Hend.out.1, by rw [← Hend.out.2, H1.out]⟩, rfl⟩
              · obtain rfl : n2 = k := by omega
                have hnx : nx = nextOf L x := by rw [hnf.out.1, List.take_of_length_le (by omega)]
                have hfb : fb = firstB L i := by rw [hnf.out.2, Nat.min_eq_right (by omega)]; unfold firstB; rw [Hxd.out]
                have hns := nextOf_spec x L (fun y hy => (HLb.out y hy).1)
                have Hnx := Lib.hid hnx
                have Hfb := Lib.hid hfb
                have Hns := Lib.hid hns
                clear hnx hfb hns hnf
                have hsn := sumL_snoc (fun i => sumL (term L (atJ js) en i) (List.range js.length)) i
                have Hsn := Lib.hid hsn
                clear hsn
                have hzero : (nx < 0 ∨ fb = false) → sumL (term L (atJ js) en i) (List.range js.length) = 0 := fun h => by
                  have : ∀ k ∈ List.range js.length, term L (atJ js) en i k = (fun _ => (0 : Int)) k := fun k hk => by
                    unfold term
                    rw [Hxd.out]
                    refine if_neg (fun h2 => ?_)
                    rcases h with h | h
                    · rcases Hns.out with ⟨_, h4⟩ | ⟨_, _, h4, _⟩
                      · have := h4 _ (HLm.out k (List.mem_range.1 hk))
                        have := of_decide_eq_true h2.2
                        omega
                      · rw [← Hnx.out] at h4; omega
                    · rw [← Hfb.out, h] at h2; cases h2.1
                  rw [sumL_congr this]
                  have hz0 : ∀ l : List Nat, sumL (fun _ => (0 : Int)) l = 0 := fun l => by
                    induction l with
                    | nil => rfl
                    | cons x l ih => rw [sumL_cons, ih]; rfl
                  exact hz0 _
                have Hzero := Lib.hid hzero
                clear hzero
                by_cases hskip : nx < 0 ∨ fb = false
                · have hz := Hzero.out hskip
                  have Hz := Lib.hid hz
                  clear hz
                  by_cases hn0 : nx < 0
                  · clear hskip
                    go_wp2
                    go_roundg (n2 - (i + 1))
                    case measure => go_light; omega
                    case rel =>
                      go_light
                      exact ⟨i + 1, _, u, by omega, rfl, by go_num, rfl, Lib.hid (by rw [Hsn.out, Hz.out, ← hu.out]; omega), rfl⟩
                  · have hn0f : decide (nx < 0) = false := decide_eq_false hn0
                    obtain rfl : fb = false := hskip.resolve_left hn0
                    clear hskip
                    go_wp2
                    go_roundg (n2 - (i + 1))
                    case measure => go_light; omega
                    case rel =>
                      go_light
                      exact ⟨i + 1, _, u, by omega, rfl, by go_num, rfl, Lib.hid (by rw [Hsn.out, Hz.out, ← hu.out]; omega), rfl⟩
                · have hn0 : ¬ nx < 0 := fun h => hskip (.inl h)
                  have hn0f : decide (nx < 0) = false := decide_eq_false hn0
                  obtain rfl : fb = true := by
                    cases hfb : fb with
                    | true => rfl
                    | false => exact absurd (.inr hfb) hskip
                  clear hskip Hzero
                  have hnb : x < nx ∧ nx ≤ 61000000000 := by
                    rcases Hns.out with ⟨h3, _⟩ | ⟨h3, h4, _, _⟩
                    · rw [← Hnx.out] at h3; omega
                    · rw [← Hnx.out] at h3 h4
                      exact ⟨h4, (HLb.out _ h3).2⟩
                  have hub : 0 ≤ u ∧ u ≤ 61000000000 * (25 * 50) := by
                    have := terms_bd (f := fun i => sumL (term L (atJ js) en i) (List.range js.length)) (B := 61000000000 * 25) i (fun i' hi' => by
                      have := HSp.out js.length i' (by omega) (Nat.le_refl _)
                      omega)
                    rw [← hu.out] at this
                    omega
                  go_wp2
                  go_loopg [9, 16] js.length (fun g av kv wy => ∃ (k m : Nat) (z : Int), k ≤ js.length ∧ g = js.length - k ∧ kv = .int .i64 k ∧ av = .int .i64 z ∧ Hid (z = u + sumL (term L (atJ js) en i) (List.range k)) ∧ wy = wr.drewN m)
                  case atStart => exact ⟨0, _, u, Nat.zero_le _, rfl, rfl, rfl, Lib.hid (by simp [sumL]), rfl⟩
                  case round =>
                    obtain ⟨k, m, z, hk, rfl, rfl, rfl, hz, rfl⟩ := hrel
                    by_cases hkl : k < js.length
                    · have hkz : (k : Int) < (js.length : Int) := by omega
                      obtain ⟨b', off', rfl, hb', hcj⟩ := HJ4.out k hkl
                      obtain ⟨xj, hxj⟩ : ∃ xj, js[k]? = some xj := ⟨js[k], List.getElem?_eq_getElem hkl⟩
                      obtain ⟨d0, _, _⟩ := hcj k xj hxj
                      have d1 := HR4.out.cell hkl
                      have hat := (jobAt hxj).1
                      have hs1 := sumL_snoc (term L (atJ js) en i) k
                      have hs2 := HSp.out k i (by omega) (by omega)
                      have hzz := hz.out
                      have hter : term L (atJ js) en i k = if atJ js k ≤ x ∧ x < en k then nx - x else 0 := by
                        unfold term
                        rw [Hxd.out, ← Hfb.out, ← Hnx.out]
                        by_cases hcc : atJ js k ≤ x ∧ x < en k
                        · rw [if_pos ⟨rfl, decide_eq_true hcc⟩, if_pos hcc]
                        · rw [if_neg (fun h => hcc (of_decide_eq_true h.2)), if_neg hcc]
                      rw [hat] at hter
                      rw [hter] at hs1
                      have Hs1 := Lib.hid hs1
                      generalize xj.1 = a1 at *
                      generalize en k = e1 at *
                      have hz0 : 0 ≤ z := by omega
                      have hz1 : z + (nx - x) ≤ 200000000000000 := by omega
                      have Hzz := Lib.hid hzz
                      clear hcj hxj hat hs1 hs2 hter hzz
                      by_cases h1 : a1 ≤ x
                      · by_cases h2 : x < e1
                        · go_wp2
                          go_quiet (fail)
                          go_wp2
                          go_roundg (js.length - (k + 1))
                          case measure => go_light; omega
                          case rel =>
                            go_light
                            exact ⟨k + 1, _, _, by omega, rfl, by go_num, rfl, Lib.hid (by rw [Hs1.out, if_pos ⟨h1, h2⟩, Hzz.out]; omega), rfl⟩
                        · have h2f : decide (x < e1) = false := decide_eq_false h2
                          go_wp2
                          go_quiet (fail)
                          go_wp2
                          go_roundg (js.length - (k + 1))
                          case measure => go_light; omega
                          case rel =>
                            go_light
                            exact ⟨k + 1, _, _, by omega, rfl, by go_num, rfl, Lib.hid (by rw [Hs1.out, if_neg (fun h => by omega), Hzz.out]; omega), rfl⟩
                      · have h1f : decide (a1 ≤ x) = false := decide_eq_false h1
                        go_wp2
                        go_quiet (fail)
                        go_wp2
                        go_roundg (js.length - (k + 1))
                        case measure => go_light; omega
                        case rel =>
                          go_light
                          exact ⟨k + 1, _, _, by omega, rfl, by go_num, rfl, Lib.hid (by rw [Hs1.out, if_neg (fun h => by omega), Hzz.out]; omega), rfl⟩
                    · obtain rfl : js.length = k := by omega
                      go_wp2
                      go_roundg (n2 - (i + 1))
                      case measure => go_light; omega
                      case rel =>
                        go_light
                        exact ⟨i + 1, _, z, by omega, rfl, by go_num, rfl, Lib.hid (by rw [Hsn.out, ← hu.out]; exact hz.out), rfl⟩
          · obtain rfl : i = 2 * js.length := by omega
            have huv : u = v := by rw [hu.out, Htot.out]
            subst huv
            go_wp2
            go_ret
            exact ⟨rfl, since_drewN hs14 _⟩
  · have HO := Lib.hid hok
    clear hok
    go_enter Try.func3, Try.ntmps3
    go_wp2_with fail
    refine (D1.out _).mono ?_
    rintro e w' ⟨rfl, rfl⟩
    go_wp2_with fail
    refine (Run_bad A cap js (1 + r) w HJ.out hlen HO.out).mono ?_
    rintro e w1 ⟨hs1, k1, rfl⟩
    go_wp2_with fail
    refine (served_any _).mono ?_
    rintro e w2 ⟨rfl, hs2⟩
    have hs12 := since_join hs1 hs2
    go_wp2_with fail
    refine (served_any _).mono ?_
    rintro e w3 ⟨rfl, hs3⟩
    have hs13 := since_join hs12 hs3
    go_wp2
    go_ret
    exact ⟨rfl, hs13⟩
end Go.Proofs.Ytekjddcckkelnaa
