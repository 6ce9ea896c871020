/- shop: ShopHued's walk. -/
import Derived.Test.YtjndmehhdgiphaaW11
namespace Go.Proofs.Ytjndmehhdgiphaa
open Go.RowKit PermM StabM McM HuM

def mxF (ti : Nat → Int) : Nat → Int
  | 0 => 0
  | i + 1 => max (mxF ti i) (ti i + 1)
theorem mxF_le {ti : Nat → Int} {T : Int} (hT : 0 ≤ T) : ∀ {k : Nat}, (∀ i, i < k → ti i < T) → mxF ti k ≤ T
  | 0, _ => hT
  | k + 1, h => by
    have h1 := mxF_le hT (k := k) (fun i hi => h i (by omega))
    have h2 := h k (by omega)
    show max _ _ ≤ T
    omega
theorem mxF_ge {ti : Nat → Int} {i : Nat} : ∀ {k : Nat}, i < k → ti i + 1 ≤ mxF ti k
  | 0, h => by omega
  | k + 1, h => by
    show _ ≤ max (mxF ti k) (ti k + 1)
    by_cases e : i = k
    · subst e; omega
    · have := mxF_ge (ti := ti) (i := i) (k := k) (by omega); omega
def bsF (n m : Nat) (lv : Nat → Nat) : Nat → Nat
  | 0 => 0
  | k + 1 => max (bsF n m lv k) (bnd n m lv k)
theorem bsF_le {n m : Nat} {lv : Nat → Nat} {T : Nat} (h : ∀ k, bnd n m lv k ≤ T) : ∀ k, bsF n m lv k ≤ T
  | 0 => Nat.zero_le _
  | k + 1 => by
    have h1 := bsF_le h k
    have h2 := h k
    show max _ _ ≤ T
    omega
theorem bsF_ge {n m : Nat} {lv : Nat → Nat} {i : Nat} : ∀ {k : Nat}, i < k → bnd n m lv i ≤ bsF n m lv k
  | 0, h => by omega
  | k + 1, h => by
    show _ ≤ max (bsF n m lv k) (bnd n m lv k)
    by_cases e : i = k
    · subst e; omega
    · have := bsF_ge (n := n) (m := m) (lv := lv) (i := i) (k := k) (by omega); omega
structure HuFacts (nx : List Int) (n m : Nat) (ti : Nat → Int) (T : Nat) : Prop where
  rng : ∀ i, i < n → -1 ≤ nf nx i ∧ nf nx i < n
  lev : ∀ i, i < n → lvF nx n i ≤ n
  pos : ∀ i, i < n → 0 ≤ ti i ∧ ti i < T
  few : ∀ i, i < n → cnt n (fun x => decide (ti x = ti i)) ≤ m
  prec : ∀ i j : Nat, i < n → j < n → nf nx i = j → ti i < ti j
  mx : mxF ti n = T
  bs : bsF n m (lvF nx n) (n + 1) = T
  tn : T ≤ n
  bnds : ∀ k, bnd n m (lvF nx n) k ≤ T
theorem hu_facts {nx : List Int} {m : Nat} {ti : Nat → Int} {T : Nat} (hm : 1 ≤ m) (h : HuRes nx m ti T) : HuFacts nx nx.length m ti T := by
  have hl : LevOk nx.length (nf nx) (lvF nx nx.length) := lev_ok h.rng h.lev
  have hok := hu_ok hl hm h.st h.all
  obtain ⟨b1, k, b2, b3⟩ := hu hok
  refine ⟨h.rng, h.lev, fun i hi => ⟨h.all i hi, (h.st.rng i hi).2⟩, fun i hi => ?_, fun i j hi hj he => (h.st.prec i j hi hj he (h.all j hj)).2, ?_, ?_, h.few, b1⟩
  · have h1 := h.st.few (ti i).toNat
    rw [Int.toNat_of_nonneg (h.all i hi)] at h1
    exact h1
  · have h1 := mxF_le (ti := ti) (T := T) (by omega) (k := nx.length) (fun i hi => (h.st.rng i hi).2)
    by_cases e : T = 0
    · subst e
      have h2 : (0 : Int) ≤ mxF ti nx.length := by
        have : ∀ k, (0 : Int) ≤ mxF ti k := fun k => by
          induction k with
          | zero => exact Int.le_refl _
          | succ k ih => show (0 : Int) ≤ max _ _; omega
        exact this _
      omega
    · obtain ⟨i, hi, he⟩ := h.st.some (T - 1) (by omega)
      have := mxF_ge (ti := ti) hi
      omega
  · have h1 := bsF_le b1 (nx.length + 1)
    have h2 := bsF_ge (n := nx.length) (m := m) (lv := lvF nx nx.length) (show k < nx.length + 1 by omega)
    rw [b3] at h2
    omega
theorem bnd_val {n m : Nat} {lv : Nat → Nat} {k a : Nat} (h : many n lv k = a) : ((bnd n m lv k : Nat) : Int) = ((a : Int) + m - 1) / m + k * (if a = 0 then 0 else 1) ∨ m = 0 := by
  by_cases hm : m = 0
  · exact .inr hm
  · left
    unfold bnd
    rw [h]
    have : ((a + m - 1 : Nat) : Int) = (a : Int) + m - 1 := by omega
    rw [Int.natCast_add, Int.natCast_ediv, this, Int.natCast_mul]
    by_cases e : a = 0
    · subst e; simp
    · rw [if_neg e, show min a 1 = 1 by omega]; rfl
set_option maxHeartbeats 16000000 in
set_option maxRecDepth 100000 in
theorem hued_any {A : Option Addr} {cap : Nat} {nx : List Int} {M : Int} {w : World} (h : IntsAt w A nx) (hlen : nx.length ≤ 9223372036854775807) :
    Calls Try.prog 5 #[.slice A nx.length cap, .int .i64 M] w (TruePost w) := by
  by_cases h30 : 30 < nx.length
  · have h30z : (30 : Int) < (nx.length : Int) := by omega
    clear h
    go_enter Try.func5, Try.ntmps5
    go_wp2
    go_ret
    exact ⟨rfl, World.Since.refl _ _⟩
  have h30' : nx.length ≤ 30 := by omega
  clear h30
  have C1 := Hu_any (cap := cap) (M := M) h hlen
  obtain ⟨n, hn⟩ : ∃ n, n = nx.length := ⟨_, rfl⟩
  have Hn := Lib.hid hn
  have H := Lib.hid h
  rw [← hn] at hlen h30' C1 ⊢
  have C1 := Lib.hid C1
  have h30z : (n : Int) ≤ 30 := by omega
  clear hn h
  have HX : Hid (∀ i, i < n → ∃ b off, A = some ⟨b, off, none⟩ ∧ b < w.heap.size ∧ ∀ j, j < n → w.cell? ⟨b, off + j, none⟩ = some (.int .i64 (nf nx j))) := Lib.hid (fun i hi => by
    obtain ⟨b, off, h1, h2, h3⟩ := H.out i (by rw [← Hn.out]; exact hi)
    refine ⟨b, off, h1, h2, fun j hj => h3 j _ ?_⟩
    unfold nf
    rw [List.getD_eq_getElem?_getD, List.getElem?_eq_getElem (by rw [← Hn.out]; exact hj)]; rfl)
  have hd30 : decide (30 < (n : Int)) = false := decide_eq_false (by omega)
  go_enter Try.func5, Try.ntmps5
  go_wp2_with fail
  refine C1.out.mono ?_
  rintro e w1 ⟨hs1, ⟨k, rfl⟩ | ⟨g, ti, m, T, he, rfl, hm1, hm2, _, hrow, hres⟩⟩
  · go_wp2_with fail
    refine (flowed_any _).mono ?_
    rintro e w2 ⟨rfl, hs2⟩
    go_wp2_with fail
    refine (flowed_any _).mono ?_
    rintro e w3 ⟨rfl, hs3⟩
    go_wp2
    go_ret
    exact ⟨rfl, since_join (since_join hs1 hs2) hs3⟩
  · have hF := hu_facts hm1 hres
    rw [← Hn.out] at he hrow hF
    subst he
    have HF := Lib.hid hF
    have Hrow := Lib.hid hrow
    clear hres hF hrow
    go_wp2_with fail
    refine (flowed_any _).mono ?_
    rintro e w2 ⟨rfl, hs2⟩
    have hs02 := since_join hs1 hs2
    have HR := Lib.hid (Hrow.out.of_block (hs2.block _ Hrow.out.lt))
    have bne : (((n : Nat) : Int) != ((n : Nat) : Int)) = false := by simp
    clear hs1 hs2 Hrow
    go_wp2
    go_loopg [7, 8] n (fun gh ev iv wr => ∃ (i : Nat) (e : Int), i ≤ n ∧ gh = n - i ∧ iv = .int .i64 i ∧ ev = .int .i64 e ∧ 0 ≤ e ∧ e ≤ 60 ∧ Hid (e = mxF ti i) ∧ w2.Since w2.heap.size wr)
    case atStart => exact ⟨0, 0, Nat.zero_le _, rfl, rfl, rfl, by omega, by omega, Lib.hid rfl, World.Since.refl _ _⟩
    case round =>
      obtain ⟨i, e, hi, rfl, rfl, rfl, e0, e1, he, hsr⟩ := hrel
      by_cases hin : i < n
      · have hiz : (i : Int) < (n : Int) := by omega
        obtain ⟨t0, t1⟩ := HF.out.pos i hin
        have htn := HF.out.tn
        obtain ⟨z, hz⟩ : ∃ z, z = ti i := ⟨_, rfl⟩
        have Hz := Lib.hid hz
        rw [← hz] at t0 t1
        have g0 := HR.out.cell hin
        rw [← hz, ← hsr.cell (show g < w2.heap.size from HR.out.lt)] at g0
        obtain ⟨wq, rfl⟩ : ∃ wq, wq = wr := ⟨_, rfl⟩
        clear hz
        go_wp2
        go_loopg [9, 10] n (fun gh mv kv wr => ∃ (k c : Nat), k ≤ n ∧ gh = n - k ∧ kv = .int .i64 k ∧ mv = .int .i64 (c : Int) ∧ c ≤ 30 ∧ Hid (c = cnt k (fun x => decide (ti x = ti i))) ∧ wq.Since wq.heap.size wr)
        case atStart => exact ⟨0, 0, Nat.zero_le _, rfl, rfl, rfl, by omega, Lib.hid rfl, World.Since.refl _ _⟩
        case round =>
          obtain ⟨k, c, hk, rfl, rfl, rfl, hc, hcn, hsq⟩ := hrel
          have hgq : g < wq.heap.size := by have := hsr.size; have := HR.out.lt; omega
          by_cases hkn : k < n
          · have hkz : (k : Int) < (n : Int) := by omega
            have g1 := HR.out.cell hkn
            rw [← hsr.cell (show g < w2.heap.size from HR.out.lt), ← hsq.cell (show g < wq.heap.size from hgq)] at g1
            rw [← hsq.cell (show g < wq.heap.size from hgq)] at g0
            have hcc : cnt (k + 1) (fun x => decide (ti x = ti i)) = cnt k (fun x => decide (ti x = ti i)) + if ti k = z then 1 else 0 := by
              rw [Hz.out]
              show cnt k _ + (if decide (ti k = ti i) = true then 1 else 0) = _
              simp
            have hct := cnt_total (p := fun x => decide (ti x = ti i)) (n := k)
            rw [← hcn.out] at hcc hct
            have Hcc := Lib.hid hcc
            clear hcc
            obtain ⟨y, hy⟩ : ∃ y, ti k = y := ⟨_, rfl⟩
            rw [hy] at g1 Hcc
            clear hy
            by_cases hyz : y = z
            · have b1 : (y == z) = true := beq_iff_eq.2 hyz
              rw [if_pos hyz] at Hcc
              clear hyz
              go_wp2
              go_quiet (fail)
              go_wp2
              go_roundg (n - (k + 1))
              case measure => go_light; omega
              case rel => go_light; exact ⟨k + 1, c + 1, by omega, rfl, by go_num, by go_num, by omega, Lib.hid Hcc.out.symm, since_drewN hsq _⟩
            · have b1 : (y == z) = false := beq_eq_false_iff_ne.2 hyz
              rw [if_neg hyz] at Hcc
              clear hyz
              go_wp2
              go_quiet (fail)
              go_wp2
              go_roundg (n - (k + 1))
              case measure => go_light; omega
              case rel => go_light; exact ⟨k + 1, c, by omega, rfl, by go_num, rfl, hc, Lib.hid Hcc.out.symm, since_drewN hsq _⟩
          · obtain rfl : n = k := by omega
            have hfew := HF.out.few i hin
            rw [← hcn.out] at hfew
            obtain ⟨bA, oA, rfl, hbA, hcA⟩ := HX.out i hin
            have f0 := hcA i hin
            have hss := since_join hs02 (since_join hsr hsq)
            rw [← hss.cell (show bA < w.heap.size from hbA)] at f0
            rw [← hsq.cell (show g < wq.heap.size from hgq)] at g0
            obtain ⟨r0, r1⟩ := HF.out.rng i hin
            have d1 : decide ((m : Int) < (c : Int)) = false := decide_eq_false (by omega)
            have d1' : decide (m < c) = false := decide_eq_false (by omega)
            have d2 : decide (z < 0) = false := decide_eq_false (by omega)
            have hmx : mxF ti (i + 1) = max e (z + 1) := by rw [Hz.out, he.out]; rfl
            have Hmx := Lib.hid hmx
            have Hss := Lib.hid (since_join hsr hsq)
            clear hmx hss hcA hcn
            obtain ⟨x, hx⟩ : ∃ x, nf nx i = x := ⟨_, rfl⟩
            have Hx := Lib.hid hx
            rw [hx] at f0 r0 r1
            clear hx
            by_cases hx0 : 0 ≤ x
            · obtain ⟨j, rfl⟩ : ∃ j : Nat, x = (j : Int) := ⟨x.toNat, by omega⟩
              have hjn : j < n := by omega
              have g2 := HR.out.cell hjn
              rw [← hsr.cell (show g < w2.heap.size from HR.out.lt), ← hsq.cell (show g < wq.heap.size from hgq)] at g2
              have hpr := HF.out.prec i j hin hjn Hx.out
              rw [← Hz.out] at hpr
              generalize ti j = y at *
              have d3 : decide (y ≤ z) = false := decide_eq_false (by omega)
              by_cases hez : z + 1 ≤ e
              · go_wp2
                go_quiet (fail)
                go_wp2
                go_roundg (n - (i + 1))
                case measure => go_light; omega
                case rel => go_light; exact ⟨i + 1, e, by omega, rfl, by go_num, rfl, e0, e1, Lib.hid (by rw [Hmx.out]; omega), since_drewN Hss.out _⟩
              · have hez' : e < z + 1 := by omega
                clear hez
                go_wp2
                go_quiet (fail)
                go_wp2
                go_roundg (n - (i + 1))
                case measure => go_light; omega
                case rel => go_light; exact ⟨i + 1, z + 1, by omega, rfl, by go_num, rfl, by omega, by omega, Lib.hid (by rw [Hmx.out]; omega), since_drewN Hss.out _⟩
            · have hx0' : x < 0 := by omega
              have d3 : decide (0 ≤ x) = false := decide_eq_false (by omega)
              clear hx0
              by_cases hez : z + 1 ≤ e
              · go_wp2
                go_quiet (fail)
                go_wp2
                go_roundg (n - (i + 1))
                case measure => go_light; omega
                case rel => go_light; exact ⟨i + 1, e, by omega, rfl, by go_num, rfl, e0, e1, Lib.hid (by rw [Hmx.out]; omega), since_drewN Hss.out _⟩
              · have hez' : e < z + 1 := by omega
                clear hez
                go_wp2
                go_quiet (fail)
                go_wp2
                go_roundg (n - (i + 1))
                case measure => go_light; omega
                case rel => go_light; exact ⟨i + 1, z + 1, by omega, rfl, by go_num, rfl, by omega, by omega, Lib.hid (by rw [Hmx.out]; omega), since_drewN Hss.out _⟩
      · obtain rfl : n = i := by omega
        have hmk := run_make_row' (P := Try.prog) 23 3 (.int .i64 0) 8 Try.underlying23 info_int rfl .i64 .i64 n (by omega) (by omega)
        have hs03 := since_join hs02 hsr
        -- ITER
        go_wp2
        clear hmk
        have r1 := World.rowIs_made wr (Value.int .i64 0) n 3
        have hs4 : w.Since w.heap.size (wr.alloc (Obj.cells (madeCells #[Value.int .i64 0] n) 3)) := hs03.alloc hs03.size _
        have hb1 : w.heap.size ≤ wr.heap.size := hs03.size
        have htn := HF.out.tn
        have Hmx : Hid (e = (T : Int)) := Lib.hid (by rw [he.out, HF.out.mx])
        clear hs03 hsr he HR
        generalize wr.alloc (Obj.cells (madeCells #[Value.int .i64 0] n) 3) = w4 at *
        generalize wr.heap.size = bl at *
        go_loopg [12] n (fun gh iv wr => ∃ i : Nat, i ≤ n ∧ gh = n - i ∧ iv = .int .i64 i ∧ w.Since w.heap.size wr ∧ wr.rowIs bl 3 n (fun x => .int .i64 (if x < i then (lvF nx n x : Int) else 0)))
        case atStart => exact ⟨0, Nat.zero_le _, rfl, rfl, hs4, r1.congr (fun x _ => by simp)⟩
        case round =>
          clear r1 hs4
          obtain ⟨i, hi, rfl, rfl, hs4, hR⟩ := hrel
          by_cases hin : i < n
          · have hiz : (i : Int) < (n : Int) := by omega
            obtain ⟨bA, oA, rfl, hbA, hcA⟩ := HX.out i hin
            have hlv := HF.out.lev i hin
            have HcA := Lib.hid hcA
            have HRr := HF
            have hR0 : wr.rowIs bl 3 n (fun x => .int .i64 (if x = i then ((0 : Nat) : Int) else if x < i then (lvF nx n x : Int) else 0)) := hR.congr (fun x hx => by
              by_cases e : x = i
              · subst e; rw [if_neg (by omega), if_pos rfl]; rfl
              · rw [if_neg (c := x = i) e])
            have HR0 := Lib.hid hR0
            clear hR hcA hR0
            go_wp2
            go_loopg [13] (lvF nx n i) (fun gh jv wx => ∃ (s : Nat) (j : Int), s + gh = lvF nx n i ∧ jv = .int .i64 j ∧ -1 ≤ j ∧ j < n ∧ Hid (lvF nx n i = s + levF (nf nx) (n + 1 - s) j) ∧ w.Since w.heap.size wx ∧ Hid (wx.rowIs bl 3 n (fun x => .int .i64 (if x = i then (s : Int) else if x < i then (lvF nx n x : Int) else 0))))
            case atStart => exact ⟨0, i, by omega, rfl, by omega, by omega, Lib.hid (by rw [Nat.zero_add, Nat.sub_zero]; rfl), hs4, HR0⟩
            case round =>
              clear hs4 HR0
              obtain ⟨s, j, hsg, rfl, j0, j1, hlev, hs4, hR⟩ := hrel
              by_cases hj : 0 ≤ j
              · obtain ⟨q, rfl⟩ : ∃ q : Nat, j = (q : Int) := ⟨j.toNat, by omega⟩
                have hqn : q < n := by omega
                have hsn : s < n + 1 := by omega
                have Hlev2 : Hid (lvF nx n i = s + 1 + levF (nf nx) (n + 1 - (s + 1)) (nf nx q)) := Lib.hid (by
                  rw [hlev.out, show n + 1 - s = (n + 1 - (s + 1)) + 1 by omega, levF_pos]; omega)
                have hs1 : s + 1 ≤ lvF nx n i := by have := Hlev2.out; omega
                have g0 := hR.out.cell hin
                rw [if_pos rfl] at g0
                have g1 := hR.out.frozen i
                have f1 := HcA.out q hqn
                rw [← hs4.cell (show bA < w.heap.size from hbA)] at f1
                obtain ⟨y0, y1⟩ := HF.out.rng q hqn
                obtain ⟨y, hy⟩ : ∃ y, nf nx q = y := ⟨_, rfl⟩
                rw [hy] at f1 y0 y1 Hlev2
                have hAb : bA ≠ bl := by omega
                clear hy
                go_wp2
                go_roundg (lvF nx n i - (s + 1))
                case measure => go_light; omega
                case rel =>
                  go_light
                  refine ⟨s + 1, y, by omega, rfl, y0, y1, Hlev2, hs4.setCell (show w.heap.size ≤ bl from hb1) _, Lib.hid ((hR.out.set i _).congr (fun x hx => ?_))⟩
                  by_cases e : x = i
                  · subst e; simp
                  · simp [e]
              · have hjd : j < 0 := by omega
                have Hlv2 : Hid (lvF nx n i = s) := Lib.hid (by rw [hlev.out, levF_neg hjd]; omega)
                have hj' : Hid (j = -1) := Lib.hid (by omega)
                clear hj
                go_wp2
                go_roundg (n - (i + 1))
                case measure => go_light; omega
                case rel =>
                  go_light
                  refine ⟨i + 1, by omega, rfl, by go_num, hs4, hR.out.congr (fun x hx => ?_)⟩
                  by_cases e : x = i
                  · subst e; rw [if_pos rfl, if_pos (by omega), Hlv2.out]
                  · rw [if_neg e]
                    by_cases e2 : x < i
                    · rw [if_pos e2, if_pos (by omega)]
                    · rw [if_neg e2, if_neg (by omega)]
          · obtain rfl : n = i := by omega
            have hR2 : wr.rowIs bl 3 n (fun x => .int .i64 (lvF nx n x : Int)) := hR.congr (fun x hx => by rw [if_pos hx])
            have HR2 := Lib.hid hR2
            clear hR hR2
            go_wp2
            go_loopg [14, 15] (n + 1) (fun gh bv kv wx => ∃ k b : Nat, k ≤ n + 1 ∧ gh = n + 1 - k ∧ kv = .int .i64 k ∧ bv = .int .i64 (b : Int) ∧ b ≤ 30 ∧ Hid (b = bsF n m (lvF nx n) k) ∧ wr = wx)
            case atStart => exact ⟨0, 0, by omega, rfl, rfl, rfl, by omega, Lib.hid rfl, rfl⟩
            case round =>
              obtain ⟨k, b, hk, rfl, rfl, rfl, hb, hbs, rfl⟩ := hrel
              by_cases hkn : k ≤ n
              · have hkz : (k : Int) ≤ (n : Int) := by omega
                go_wp2
                go_loopg [16, 17] n (fun gh mv iv wx => ∃ i c : Nat, i ≤ n ∧ gh = n - i ∧ iv = .int .i64 i ∧ mv = .int .i64 (c : Int) ∧ c ≤ 30 ∧ Hid (c = cnt i (fun x => decide (k < lvF nx n x))) ∧ wr = wx)
                case atStart => exact ⟨0, 0, by omega, rfl, rfl, rfl, by omega, Lib.hid rfl, rfl⟩
                case round =>
                  obtain ⟨i, c, hi, rfl, rfl, rfl, hc, hcn, rfl⟩ := hrel
                  by_cases hin : i < n
                  · have hiz : (i : Int) < (n : Int) := by omega
                    have g0 := HR2.out.cell hin
                    have hct := cnt_total (p := fun x => decide (k < lvF nx n x)) (n := i)
                    have hcc : cnt (i + 1) (fun x => decide (k < lvF nx n x)) = cnt i (fun x => decide (k < lvF nx n x)) + if k < lvF nx n i then 1 else 0 := by
                      show cnt i _ + (if decide (k < lvF nx n i) = true then 1 else 0) = _
                      simp
                    rw [← hcn.out] at hcc hct
                    have Hcc := Lib.hid hcc
                    clear hcc
                    generalize lvF nx n i = lv at *
                    by_cases hlt : k < lv
                    · rw [if_pos hlt] at Hcc
                      have hltz : (k : Int) < (lv : Int) := by omega
                      go_wp2
                      go_roundg (n - (i + 1))
                      case measure => go_light; omega
                      case rel => go_light; exact ⟨i + 1, c + 1, by omega, rfl, by go_num, by go_num, by omega, Lib.hid Hcc.out.symm, rfl⟩
                    · rw [if_neg hlt] at Hcc
                      have hltz : (lv : Int) ≤ (k : Int) := by omega
                      have hltd : decide (k < lv) = false := decide_eq_false hlt
                      clear hlt
                      go_wp2
                      go_roundg (n - (i + 1))
                      case measure => go_light; omega
                      case rel => go_light; exact ⟨i + 1, c, by omega, rfl, by go_num, rfl, hc, Lib.hid Hcc.out.symm, rfl⟩
                  · obtain rfl : n = i := by omega
                    have hv := (bnd_val (n := n) (m := m) (lv := lvF nx n) (k := k) (a := c) hcn.out.symm).resolve_right (by omega)
                    have hbb := bsF_le (n := n) (m := m) (lv := lvF nx n) (T := 30) (fun q => by
                      have h1 := bsF_ge (n := n) (m := m) (lv := lvF nx n) (i := q) (k := q + 1) (by omega)
                      have h2 : bnd n m (lvF nx n) q ≤ T := HF.out.bnds q
                      omega) (k + 1)
                    have hbv : bsF n m (lvF nx n) (k + 1) = max b (bnd n m (lvF nx n) k) := by rw [hbs.out]; rfl
                    rw [hbv] at hbb
                    have Hbv := Lib.hid hbv
                    generalize bnd n m (lvF nx n) k = B at *
                    have x1 : 0 ≤ (c : Int) + m - 1 := by omega
                    have x2 : (c : Int) + m - 1 ≤ 60 := by omega
                    clear hbv hcn
                    have y0 : 0 ≤ ((c : Int) + m - 1) / m := Int.ediv_nonneg x1 (by omega)
                    have y1 : ((c : Int) + m - 1) / m ≤ 60 := Int.le_trans (Int.ediv_le_self _ x1) x2
                    -- ITER5
                    by_cases hc0 : c = 0
                    · subst hc0
                      rw [if_pos rfl, Int.mul_zero, Int.add_zero] at hv
                      have hq0 : ((m : Int) - 1) / m = 0 := Int.ediv_eq_zero_of_lt (by omega) (by omega)
                      have hB0 : B = 0 := by
                        rw [show ((0 : Nat) : Int) + (m : Int) - 1 = (m : Int) - 1 by omega, hq0] at hv
                        omega
                      clear hv y0 y1
                      go_wp2
                      go_roundg (n + 1 - (k + 1))
                      case measure => go_light; omega
                      case rel => go_light; exact ⟨k + 1, b, by omega, rfl, by go_num, rfl, by omega, Lib.hid (by have := Hbv.out; omega), rfl⟩
                    · rw [if_neg hc0, Int.mul_one] at hv
                      by_cases hc1 : c = 1
                      · subst hc1
                        have hq1 : (1 + (m : Int) - 1) / m = 1 := by
                          rw [show 1 + (m : Int) - 1 = m by omega]
                          exact Int.ediv_self (by omega)
                        have hB1 : (B : Int) = 1 + k := by
                          rw [show ((1 : Nat) : Int) + (m : Int) - 1 = 1 + (m : Int) - 1 by omega, hq1] at hv
                          exact hv
                        have HB1 := Lib.hid hB1
                        clear hv y0 y1 hB1
                        by_cases hmx : 1 + (k : Int) ≤ b
                        · go_wp2
                          go_roundg (n + 1 - (k + 1))
                          case measure => go_light; omega
                          case rel => go_light; exact ⟨k + 1, b, by omega, rfl, by go_num, rfl, by omega, Lib.hid (by have := Hbv.out; have := HB1.out; omega), rfl⟩
                        · have hmx' : (b : Int) < 1 + (k : Int) := by omega
                          clear hmx
                          go_wp2
                          go_roundg (n + 1 - (k + 1))
                          case measure => go_light; omega
                          case rel => go_light; exact ⟨k + 1, 1 + k, by omega, rfl, by go_num, by go_num, by have := HB1.out; omega, Lib.hid (by have := Hbv.out; have := HB1.out; omega), rfl⟩
                      · have hc2 : 1 < (c : Int) := by omega
                        have HB1 := Lib.hid hv
                        clear hv hc0 hc1
                        by_cases hmx : ((c : Int) + m - 1) / m + k ≤ b
                        · go_wp2
                          go_roundg (n + 1 - (k + 1))
                          case measure => go_light; omega
                          case rel => go_light; exact ⟨k + 1, b, by omega, rfl, by go_num, rfl, by omega, Lib.hid (by have := Hbv.out; have := HB1.out; omega), rfl⟩
                        · have hmx' : (b : Int) < ((c : Int) + m - 1) / m + k := by omega
                          clear hmx
                          go_wp2
                          go_roundg (n + 1 - (k + 1))
                          case measure => go_light; omega
                          case rel => go_light; exact ⟨k + 1, B, by omega, rfl, by go_num, by rw [HB1.out], by omega, Lib.hid (by have := Hbv.out; have := HB1.out; omega), rfl⟩
              · obtain rfl : k = n + 1 := by omega
                have Hb : Hid (b = T) := Lib.hid (by rw [hbs.out, HF.out.bs])
                have Heb : Hid (e = (b : Int)) := Lib.hid (by rw [Hmx.out, Hb.out])
                have beb : (e == (b : Int)) = true := beq_iff_eq.2 Heb.out
                go_wp2
                go_ret
                exact ⟨rfl, hs4⟩
end Go.Proofs.Ytjndmehhdgiphaa
