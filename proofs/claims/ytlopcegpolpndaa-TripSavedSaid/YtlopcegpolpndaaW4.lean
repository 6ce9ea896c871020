/- trip.Better: pieces turned over as long as that makes a way shorter. -/
import Derived.Test.YtlopcegpolpndaaW3
import Derived.Test.YtlopcegpolpndaaTurnM
import Derived.WalkMore
namespace Go.Proofs.Ytlopcegpolpndaa
open Go.RowKit PermM TripM

/-- a way of the call's own, in a slice -/
structure St (w wr : World) (A : Option Addr) (cap : Nat) (l : List Nat) : Prop where
  since : w.Since w.heap.size wr
  own : 0 < l.length → ∃ g f, A = some ⟨g, 0, none⟩ ∧ w.heap.size ≤ g ∧ l.length ≤ cap ∧ wr.rowIs g 3 cap f ∧ ∀ i, i < l.length → f i = natsV l i
theorem St.drewN {w wr : World} {A : Option Addr} {cap : Nat} {l : List Nat} (h : St w wr A cap l) (n : Nat) : St w (wr.drewN n) A cap l :=
  ⟨⟨h.since.os, h.since.tape, h.since.output, h.since.size, h.since.block⟩, h.own⟩
theorem St.ints {w wr : World} {A : Option Addr} {cap : Nat} {l : List Nat} (h : St w wr A cap l) : IntsAt wr A (ints l) := fun k hk => by
  rw [ints_len] at hk
  obtain ⟨g, f, hA, _, hc, hr, hf⟩ := h.own (by omega)
  refine ⟨g, 0, hA, hr.lt, fun i x hx => ?_⟩
  have hi := (List.getElem?_eq_some_iff.1 hx).1
  rw [ints_len] at hi
  rw [Nat.zero_add, hr.cell (by omega), hf i hi]
  unfold natsV
  unfold Ytlopcegpolpndaa.ints at hx
  rw [List.getElem?_map, List.getElem?_eq_getElem hi] at hx
  simp at hx
  rw [List.getD_eq_getElem?_getD, List.getElem?_eq_getElem hi]
  simp [hx]
theorem own_row {w : World} {base : Nat} {v : Value} {xs : List Value} (h : w.ownsRow base 3 1 v xs.length xs) : ∃ A cap, v = .slice A xs.length cap ∧ xs.length ≤ cap ∧ cap ≤ maxLen ∧
    (0 < xs.length → ∃ g f, A = some ⟨g, 0, none⟩ ∧ base ≤ g ∧ w.rowIs g 3 cap f ∧ ∀ i, i < xs.length → f i = xs.getD i undef) := by
  rcases h.2 with ⟨rfl, h0⟩ | ⟨g, cap, cur, rfl, hb, hh, hnc, hm, hsz, hc⟩
  · exact ⟨none, 0, by rw [h0], by omega, by unfold maxLen; omega, fun h => by omega⟩
  · refine ⟨_, cap, rfl, hnc, hm, fun _ => ⟨g, fun i => cur.getD i undef, rfl, hb, ⟨cur, hh, by omega, fun i hi => ?_⟩, fun i hi => ?_⟩⟩
    · show cur[i]? = some (cur.getD i undef)
      rw [Array.getD_eq_getD_getElem?, Array.getElem?_eq_getElem (by omega)]; rfl
    · have : xs[i]? = cur[i]? := by
        conv => lhs; rw [← hc]
        rw [List.getElem?_take, if_pos (by omega)]; simp
      show cur.getD i undef = _
      rw [Array.getD_eq_getD_getElem?, List.getD_eq_getElem?_getD, this]
theorem vals_len (l : List Nat) : (l.map fun (x : Nat) => Value.int .i64 (x : Int)).length = l.length := by simp
theorem vals_getD (l : List Nat) (i : Nat) (h : i < l.length) : (l.map fun (x : Nat) => Value.int .i64 (x : Int)).getD i undef = natsV l i := by
  simp [natsV, List.getD_eq_getElem?_getD, List.getElem?_eq_getElem h]
theorem St.start {w w1 : World} {v : Value} {l : List Nat} {n : Nat} (hn : n = l.length) (hs : w.Since w.heap.size w1) (h : w1.ownsRow w.heap.size 3 1 v n (l.map fun (x : Nat) => Value.int .i64 (x : Int))) : ∃ A cap, v = .slice A n cap ∧ St w w1 A cap l ∧ n ≤ cap ∧ cap ≤ maxLen := by
  subst hn
  have h' : w1.ownsRow w.heap.size 3 1 v (l.map fun (x : Nat) => Value.int .i64 (x : Int)).length (l.map fun (x : Nat) => Value.int .i64 (x : Int)) := by rw [vals_len]; exact h
  obtain ⟨A, cap, hv, hc, hm, ho⟩ := own_row h'
  rw [vals_len] at hv hc ho
  refine ⟨A, cap, hv, ⟨hs, fun h0 => ?_⟩, hc, hm⟩
  obtain ⟨g, f, hA, hb, hr, hf⟩ := ho h0
  exact ⟨g, f, hA, hb, hc, hr, fun i hi => by rw [hf i hi, vals_getD l i hi]⟩

theorem St.up {w wr w2 : World} {A : Option Addr} {cap : Nat} {l : List Nat} (h : St wr w2 A cap l) (hs : w.Since w.heap.size wr) : St w w2 A cap l := by
  have := hs.size
  refine ⟨since_join hs h.since, fun h0 => ?_⟩
  obtain ⟨g, f, hA, hg, r⟩ := h.own h0
  exact ⟨g, f, hA, by omega, r⟩

/-- no turn between i and k makes it shorter -/
def NoImp (D : Nat → Nat → Int) (l : List Nat) (i k : Nat) : Prop :=
  D (l.getD (i - 1) 0) (l.getD i 0) + D (l.getD k 0) (l.getD ((k + 1) % l.length) 0) ≤ D (l.getD (i - 1) 0) (l.getD k 0) + D (l.getD i 0) (l.getD ((k + 1) % l.length) 0)
def BetterPost (m : List (List Int)) (l0 : List Nat) (w : World) (e : Ending) (w' : World) : Prop :=
  w.Since w.heap.size w' ∧ ((∃ k, e = .returned (.tuple #[.slice none 0 0, .iface 46 (.int .i64 k)])) ∨
    (MapOk m ∧ ∃ A cap l, e = .returned (.tuple #[.slice A m.length cap, .nilIface]) ∧ IntsAt w' A (ints l) ∧ IsPerm m.length l ∧ longOf (dOf m) l ≤ longOf (dOf m) l0 ∧ (∀ a b, dOf m a b = dOf m b a) ∧
      ∀ i k, 1 ≤ i → i < k → k < m.length → NoImp (dOf m) l i k))

theorem dOf_out {m : List (List Int)} (t : MapOk m) {a b : Nat} (h : m.length ≤ a ∨ m.length ≤ b) : dOf m a b = 0 := by
  unfold dOf
  rw [List.getD_eq_getElem?_getD, List.getD_eq_getElem?_getD]
  cases ha : m[a]? with
  | none => simp
  | some r =>
    have hr := t.row r (List.mem_of_getElem? ha)
    have := (List.getElem?_eq_some_iff.1 ha).1
    simp only [Option.getD_some]
    rw [List.getElem?_eq_none (by omega)]; rfl

theorem IsPerm_getD {n : Nat} {l : List Nat} (h : IsPerm n l) {i : Nat} (hi : i < n) : l.getD i 0 < n := by
  have hl := h.len
  rw [List.getD_eq_getElem?_getD, List.getElem?_eq_getElem (by omega)]
  exact h.lt _ (List.getElem_mem _)
theorem pathLen_nonneg {D : Nat → Nat → Int} (h : ∀ a b, 0 ≤ D a b) : ∀ l, 0 ≤ pathLen D l
  | [] => Int.le_refl _
  | [_] => Int.le_refl _
  | a :: b :: r => by
    have := pathLen_nonneg h (b :: r)
    have := h a b
    simp only [pathLen]; omega
theorem longOf_nonneg {D : Nat → Nat → Int} (h : ∀ a b, 0 ≤ D a b) (l : List Nat) : 0 ≤ longOf D l := by
  rw [longOf_eq]
  split
  · have := pathLen_nonneg h l
    have := h (l.getD (l.length - 1) 0) (l.getD 0 0)
    omega
  · omega

set_option maxHeartbeats 4000000 in
set_option maxRecDepth 100000 in
theorem Better_any {A C : Option Addr} {cap cap2 : Nat} {m : List (List Int)} {l0 : List Nat} {w : World} (h : MapAt w A m) (hlen : m.length ≤ 9223372036854775807) (hrl : ∀ r ∈ m, r.length ≤ 9223372036854775807) (hl : IntsAt w C (ints l0)) (hp : IsPerm m.length l0)
    (hC : ∃ g, C = some ⟨g, 0, none⟩ ∧ g < w.heap.size) :
    Calls Try.prog 13 #[.slice A m.length cap, .slice C m.length cap2] w (BetterPost m l0 w) := by
  by_cases t : MapOk m
  case neg =>
    go_enter Try.func13, Try.ntmps13
    go_wp2_with fail
    refine (Check_bad h (by omega) hrl t).mono ?_
    rintro e w0 ⟨hs0, k, rfl⟩
    go_wp2
    go_ret2
    exact ⟨hs0, .inl ⟨k, rfl⟩⟩
  have hfew := t.few
  go_enter Try.func13, Try.ntmps13
  go_wp2_with fail
  refine (Check_ok h t).mono ?_
  rintro e w0 ⟨rfl, rfl⟩
  go_wp2_with fail
  refine (Order_ok (by omega) hl hp).mono ?_
  rintro e w1 ⟨rfl, hs1⟩
  go_wp2
  go_loopg [32] m.length (fun g i wr => ∃ k : Nat, k ≤ m.length ∧ g = m.length - k ∧ i = .int .i64 k ∧ w.Since w.heap.size wr ∧ Hid (∀ a b, a < k → b < m.length → dOf m a b = dOf m b a))
  case atStart => exact ⟨0, Nat.zero_le _, rfl, rfl, hs1, Lib.hid (fun a b ha => absurd ha (by omega))⟩
  case round =>
    clear hs1
    obtain ⟨i, hi, rfl, rfl, hs, hS⟩ := hrel
    by_cases him : i < m.length
    · have hiz : (i : Int) < (m.length : Int) := by omega
      go_wp2
      go_loopg [37] m.length (fun g j wr => ∃ k : Nat, k ≤ m.length ∧ g = m.length - k ∧ j = .int .i64 k ∧ w.Since w.heap.size wr ∧ Hid (∀ b, b < k → dOf m i b = dOf m b i))
      case atStart => exact ⟨0, Nat.zero_le _, rfl, rfl, hs, Lib.hid (fun b hb => absurd hb (by omega))⟩
      case round =>
        clear hs
        obtain ⟨k, hk, rfl, rfl, hs, hS2⟩ := hrel
        by_cases hkm : k < m.length
        · have hkz : (k : Int) < (m.length : Int) := by omega
          have hm2 := h.since hs
          obtain ⟨b, off, A1, c1, rfl, hb, g1, hg1⟩ := t.at_ hm2 him
          obtain ⟨b1, off1, rfl, hb1, g2⟩ := hg1 k hkm
          obtain ⟨b', off', A2, c2, hAA, hb', g3, hg3⟩ := t.at_ hm2 hkm
          injection hAA with hAA
          injection hAA with e1 e2
          subst e1 e2
          obtain ⟨b2, off2, rfl, hb2, g4⟩ := hg3 i him
          clear hg1 hg3
          obtain ⟨x, hx⟩ : ∃ x, x = dOf m i k := ⟨_, rfl⟩
          obtain ⟨y, hy⟩ : ∃ y, y = dOf m k i := ⟨_, rfl⟩
          rw [← hx] at g2
          rw [← hy] at g4
          have Hx := Lib.hid hx
          have Hy := Lib.hid hy
          clear hx hy
          by_cases e : x = y
          · subst e
            have eb : (x != x) = false := by simp
            go_wp2
            go_quiet (fail)
            go_wp2
            go_roundg (m.length - (k + 1))
            case measure => go_light; omega
            case rel =>
              go_light
              refine ⟨k + 1, by omega, rfl, by go_num, since_drewN hs _, Lib.hid (fun b hb => ?_)⟩
              by_cases e : b = k
              · subst e; rw [← Hx.out, ← Hy.out]
              · exact hS2.out b (by omega)
          · have eb : (x != y) = true := by rw [bne_iff_ne]; exact e
            go_wp2
            go_quiet (fail)
            go_wp2
            go_ret2
            exact ⟨since_drewN hs _, .inl ⟨3, rfl⟩⟩
        · obtain rfl : m.length = k := by omega
          go_wp2
          go_roundg (m.length - (i + 1))
          case measure => go_light; omega
          case rel =>
            go_light
            refine ⟨i + 1, by omega, rfl, by go_num, hs, Lib.hid (fun a b ha hb => ?_)⟩
            by_cases e : a = i
            · subst e; exact hS2.out b hb
            · exact hS.out a b (by omega) hb
    · obtain rfl : m.length = i := by omega
      have hsym : ∀ a b, dOf m a b = dOf m b a := fun a b => by
        by_cases ha : a < m.length
        · by_cases hb : b < m.length
          · exact hS.out a b ha hb
          · rw [dOf_out t (.inr (by omega)), dOf_out t (.inl (by omega))]
        · rw [dOf_out t (.inl (by omega)), dOf_out t (.inr (by omega))]
      have Hsym := Lib.hid hsym
      clear hsym
      obtain ⟨gC, rfl, hgC⟩ := hC
      have hvl := vals_len l0
      rw [hp.len] at hvl
      have cC := Clone_any ⟨gC, 0, none⟩ cap2 (l0.map fun (x : Nat) => Value.int .i64 (x : Int)) wr (by omega) (Nat.lt_of_lt_of_le hgC hs.size) (fun j u hu => by
          rw [List.getElem?_map, Option.map_eq_some_iff] at hu
          obtain ⟨x, hx, rfl⟩ := hu
          have hj := (List.getElem?_eq_some_iff.1 hx).1
          obtain ⟨b, off, hA, hb, hc⟩ := ints_at hl hj
          injection hA with hA
          injection hA with e1 e2
          subst e1 e2
          have := hc j x hx
          rw [← hs.cell (show gC < w.heap.size from hgC), Nat.zero_add] at this
          unfold Addr.add
          split
          · rename_i e; subst e; exact this
          · simpa using this) (by intro u hu; obtain ⟨x, _, rfl⟩ := List.mem_map.1 hu; rfl)
      rw [hvl] at cC
      have CC := Lib.hid cC
      clear cC hvl
      go_wp2_with fail
      refine CC.out.mono ?_
      rintro e w2 ⟨hs2, v2, rfl, hown⟩
      rw [vals_len, hp.len] at hown
      obtain ⟨A2, c2, rfl, hSt0, hc2, hcm⟩ := St.start hp.len.symm hs2 hown
      have hSt := hSt0.up hs
      clear hSt0
      have hlong : ∀ l, 0 ≤ longOf (dOf m) l := fun l => longOf_nonneg (fun a b => (dOf_bd t a b).1) l
      have Hlong := Lib.hid hlong
      clear hlong
      have hb0 : longOf (dOf m) l0 = longOf (dOf m) l0 := rfl
      go_wp2
      go_loopg [11] (2 * (longOf (dOf m) l0).toNat + 1) (fun g ag wr => ∃ (l : List Nat) (b : Bool), g = 2 * (longOf (dOf m) l).toNat + b.toNat ∧ ag = .bool b ∧ St w wr A2 c2 l ∧ Hid (IsPerm m.length l ∧ longOf (dOf m) l ≤ longOf (dOf m) l0 ∧ (b = false → ∀ i k, 1 ≤ i → i < k → k < m.length → NoImp (dOf m) l i k)))
      case atStart => exact ⟨l0, true, rfl, rfl, hSt, Lib.hid ⟨hp, Int.le_refl _, by simp⟩⟩
      case round =>
        clear hSt
        obtain ⟨l, b, rfl, rfl, hSt, HF⟩ := hrel
        have hpl := HF.out.1
        have hln := hpl.len
        cases b
        case false =>
          go_wp2
          go_ret2
          exact ⟨hSt.since, .inr ⟨t, A2, c2, l, rfl, hSt.ints, hpl, HF.out.2.1, Hsym.out, HF.out.2.2 (by simp)⟩⟩
        case true =>
          go_wp2
          go_step3
          go_wp2
          go_step3
          go_wp2
          go_loopg [11, 12] (m.length - 1) (fun g ag i wr => ∃ (k : Nat), 1 ≤ k ∧ g = m.length - k ∧ i = .int .i64 k ∧ ag = .bool false ∧ St w wr A2 c2 l ∧ Hid (∀ i' k', 1 ≤ i' → i' < k → i' < k' → k' < m.length → NoImp (dOf m) l i' k'))
          case atStart => exact ⟨1, Nat.le_refl _, rfl, rfl, rfl, hSt, Lib.hid (fun i' k' h1 h2 => by omega)⟩
          case round =>
            clear hSt
            obtain ⟨i, hi1, rfl, rfl, rfl, hSt, HN⟩ := hrel
            by_cases him : i < m.length
            · have himz : (i : Int) < (m.length : Int) := by omega
              go_wp2
              go_loopg [11, 13] (m.length - (i + 1)) (fun g ag j wr => ∃ (k : Nat), i < k ∧ k ≤ m.length ∧ g = m.length - k ∧ j = .int .i64 k ∧ ag = .bool false ∧ St w wr A2 c2 l ∧ Hid (∀ k', i < k' → k' < k → NoImp (dOf m) l i k'))
              case atStart => exact ⟨i + 1, by omega, by omega, rfl, by go_num, rfl, hSt, Lib.hid (fun k' h1 h2 => by omega)⟩
              case round =>
                clear hSt
                obtain ⟨k, hik, hkm, rfl, rfl, rfl, hSt, HN2⟩ := hrel
                by_cases hk : k < m.length
                · have hkz : (k : Int) < (m.length : Int) := by omega
                  have hA2 := hSt.own (by omega)
                  obtain ⟨g, f, rfl, hgB, hcc, hrr, hf⟩ := hA2
                  have hN : (k + 1) % m.length < m.length := Nat.mod_lt _ (by omega)
                  obtain ⟨q, hq⟩ : ∃ q, q = (k + 1) % m.length := ⟨_, rfl⟩
                  have hqz : (q : Int) < (m.length : Int) := by omega
                  obtain ⟨i1, rfl⟩ : ∃ i1, i = i1 + 1 := ⟨i - 1, by omega⟩
                  have va : f i1 = natsV l i1 := hf i1 (by omega)
                  have vb : f (i1 + 1) = natsV l (i1 + 1) := hf _ (by omega)
                  have vc : f k = natsV l k := hf _ (by omega)
                  have vd : f q = natsV l q := hf _ (by omega)
                  have ca := hrr.cell (i := i1) (by omega)
                  have cb := hrr.cell (i := i1 + 1) (by omega)
                  have cc := hrr.cell (i := k) (by omega)
                  have cd := hrr.cell (i := q) (by omega)
                  rw [va] at ca
                  rw [vb] at cb
                  rw [vc] at cc
                  rw [vd] at cd
                  unfold natsV at ca cb cc cd
                  clear va vb vc vd
                  have la : l.getD i1 0 < m.length := IsPerm_getD hpl (by omega)
                  have lb : l.getD (i1 + 1) 0 < m.length := IsPerm_getD hpl (by omega)
                  have lc : l.getD k 0 < m.length := IsPerm_getD hpl (by omega)
                  have ld : l.getD q 0 < m.length := IsPerm_getD hpl (by omega)
                  have Hq : Hid (NoImp (dOf m) l (i1 + 1) k ↔ dOf m (l.getD i1 0) (l.getD (i1 + 1) 0) + dOf m (l.getD k 0) (l.getD q 0) ≤ dOf m (l.getD i1 0) (l.getD k 0) + dOf m (l.getD (i1 + 1) 0) (l.getD q 0)) := Lib.hid (by
                    unfold NoImp
                    rw [Nat.add_sub_cancel, hln, ← hq])
                  have Ht : Hid (longOf (dOf m) (turn l (i1 + 1) k) = longOf (dOf m) l - dOf m (l.getD i1 0) (l.getD (i1 + 1) 0) - dOf m (l.getD k 0) (l.getD q 0) + dOf m (l.getD i1 0) (l.getD k 0) + dOf m (l.getD (i1 + 1) 0) (l.getD q 0)) := Lib.hid (by
                    have := turn_longOf (dOf m) Hsym.out l (i1 + 1) k (by omega) hik (by omega)
                    rw [Nat.add_sub_cancel, hln, ← hq] at this
                    exact this)
                  generalize l.getD i1 0 = a at *
                  generalize l.getD (i1 + 1) 0 = b at *
                  generalize l.getD k 0 = c at *
                  generalize l.getD q 0 = d at *
                  have hm2 := h.since hSt.since
                  obtain ⟨ba, offa, Aa, c1, rfl, hba, ga, hga⟩ := t.at_ hm2 la
                  obtain ⟨bb, offb, Ab, c1b, hAA, hbb, gb, hgb⟩ := t.at_ hm2 lb
                  injection hAA with hAA; injection hAA with e1 e2; subst e1 e2
                  obtain ⟨bc, offc, Ac, c1c, hAA, hbc, gc, hgc⟩ := t.at_ hm2 lc
                  injection hAA with hAA; injection hAA with e1 e2; subst e1 e2
                  obtain ⟨ba1, offa1, rfl, hba1, gac⟩ := hga c lc
                  obtain ⟨ba2, offa2, hAA, hba2, gab⟩ := hga b lb
                  injection hAA with hAA; injection hAA with e1 e2; subst e1 e2
                  obtain ⟨bb1, offb1, rfl, hbb1, gbd⟩ := hgb d ld
                  obtain ⟨bc1, offc1, rfl, hbc1, gcd⟩ := hgc d ld
                  clear hga hgb hgc
                  have dac := dOf_bd t a c
                  have dab := dOf_bd t a b
                  have dbd := dOf_bd t b d
                  have dcd := dOf_bd t c d
                  generalize dOf m a c = xac at *
                  generalize dOf m a b = xab at *
                  generalize dOf m b d = xbd at *
                  generalize dOf m c d = xcd at *
                  have haz : (a : Int) < (m.length : Int) := by omega
                  have hbz : (b : Int) < (m.length : Int) := by omega
                  have hcz : (c : Int) < (m.length : Int) := by omega
                  have hdz : (d : Int) < (m.length : Int) := by omega
                  subst hq
                  have hmz0 : 0 ≤ ((k : Int) + 1) % (m.length : Int) := Int.emod_nonneg _ (by omega)
                  have hmz1 : ((k : Int) + 1) % (m.length : Int) < (m.length : Int) := Int.emod_lt_of_pos _ (by omega)
                  by_cases himp : xac + xbd < xab + xcd
                  · go_wp2
                    go_quiet (fail)
                    go_wp2
                    go_quiet (fail)
                    go_wp2_with fail
                    refine (Reverse_any g c2 (i1 + 1) (k - i1) (c2 - (i1 + 1)) f (wr.drewN _) (by omega) (by omega) hrr (fun j _ h2 => ⟨_, hf j (by omega)⟩)).mono ?_
                    rintro e w3 ⟨rfl, ho3, hr3⟩
                    have hSt3 : St w w3 (some ⟨g, 0, none⟩) c2 (turn l (i1 + 1) k) := by
                      have htl := turn_len l (i1 + 1) k (by omega)
                      refine ⟨ho3.since (since_drewN hSt.since _) hgB, fun _ => ⟨g, _, rfl, hgB, by omega, hr3, fun j hj => ?_⟩⟩
                      rw [htl] at hj
                      unfold revF natsV
                      rw [turn_get l (i1 + 1) k j (by omega) (by omega)]
                      by_cases e1 : i1 + 1 ≤ j ∧ j ≤ k
                      · rw [if_pos e1, if_pos (by omega), hf _ (by omega)]
                        unfold natsV
                        congr 4; omega
                      · rw [if_neg e1, if_neg (by omega), hf _ hj]; rfl
                    have hT : longOf (dOf m) (turn l (i1 + 1) k) < longOf (dOf m) l := by rw [Ht.out]; omega
                    have hT0 := Hlong.out (turn l (i1 + 1) k)
                    have hT2 := HF.out.2.1
                    go_wp2
                    rw [Exit.noGoto_normal]
                    go_wp2
                    go_roundg (2 * (longOf (dOf m) (turn l (i1 + 1) k)).toNat + 1)
                    case measure => go_light; simp; omega
                    case rel =>
                      go_light
                      exact ⟨turn l (i1 + 1) k, true, by simp, rfl, hSt3, Lib.hid ⟨IsPerm_turn hpl (by omega), by omega, by simp⟩⟩
                  · have himp2 : xab + xcd ≤ xac + xbd := by omega
                    go_wp2
                    go_quiet (fail)
                    go_wp2
                    go_quiet (fail)
                    go_wp2
                    go_roundg (m.length - (k + 1))
                    case measure => go_light; omega
                    case rel =>
                      go_light
                      refine ⟨k + 1, by omega, by omega, rfl, by go_num, rfl, hSt.drewN _, Lib.hid (fun k' h1 h2 => ?_)⟩
                      by_cases e : k' = k
                      · subst e; exact Hq.out.2 himp2
                      · exact HN2.out k' h1 (by omega)
                · obtain rfl : m.length = k := by omega
                  go_wp2
                  go_roundg (m.length - (i + 1))
                  case measure => go_light; omega
                  case rel =>
                    go_light
                    refine ⟨i + 1, by omega, rfl, by go_num, rfl, hSt, Lib.hid (fun i' k' h1 h2 h3 h4 => ?_)⟩
                    by_cases e : i' = i
                    · subst e; exact HN2.out k' h3 h4
                    · exact HN.out i' k' h1 (by omega) h3 h4
            · have himz : (m.length : Int) ≤ (i : Int) := by omega
              go_wp2
              rw [Exit.noGoto_normal]
              go_wp2
              go_roundg (2 * (longOf (dOf m) l).toNat)
              case measure => go_light; simp
              case rel =>
                go_light
                exact ⟨l, false, by simp, rfl, hSt, Lib.hid ⟨hpl, HF.out.2.1, fun _ i' k' h1 h2 h3 => HN.out i' k' h1 (by omega) h2 h3⟩⟩
end Go.Proofs.Ytlopcegpolpndaa
