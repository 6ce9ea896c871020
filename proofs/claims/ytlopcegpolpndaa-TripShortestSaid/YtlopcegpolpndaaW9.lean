/- trip.Tree (Prim): no round way is shorter than what it answers. -/
import Derived.Test.YtlopcegpolpndaaW7
namespace Go.Proofs.Ytlopcegpolpndaa
open Go.RowKit PermM TripM

/-- the shorter direction -/
def wOf (m : List (List Int)) (a b : Nat) : Int := min (dOf m a b) (dOf m b a)
theorem wOf_symm (m : List (List Int)) (a b : Nat) : wOf m a b = wOf m b a := Int.min_comm _ _
theorem wOf_bd {m : List (List Int)} (t : MapOk m) (a b : Nat) : 0 ≤ wOf m a b ∧ wOf m a b ≤ 1000000000 := by
  have := dOf_bd t a b
  have := dOf_bd t b a
  unfold wOf; omega
theorem wOf_le (m : List (List Int)) (a b : Nat) : wOf m a b ≤ dOf m a b := Int.min_le_left _ _

/-- the places that are joined, and how long that was: no way joins them shorter -/
structure TI (m : List (List Int)) (k : Nat) (I : Nat → Bool) (s : Int) : Prop where
  cnt : ∃ P : List Nat, P.Nodup ∧ P.length = k ∧ ∀ x, I x = true ↔ x ∈ P
  zero : 0 < k → I 0 = true
  low : ∀ l, IsPerm m.length l → ∃ E, (∀ e ∈ E, e.1 < m.length ∧ e.2 < m.length) ∧ Con m.length I E ∧ s + costE (wOf m) E ≤ costE (wOf m) (pairs l)
theorem TI.out {m : List (List Int)} {k : Nat} {I : Nat → Bool} {s : Int} (h : TI m k I s) (hk : k < m.length) : ∃ y, y < m.length ∧ I y = false := by
  obtain ⟨P, hn, hl, hP⟩ := h.cnt
  apply Classical.byContradiction
  intro hno
  have := sub_len (List.range m.length) P List.nodup_range (fun x hx => by
    rw [← hP]
    cases hx' : I x with
    | true => rfl
    | false => exact absurd ⟨x, List.mem_range.1 hx, hx'⟩ hno)
  rw [List.length_range] at this
  omega
theorem TI.start (m : List (List Int)) : TI m 0 (fun _ => false) 0 :=
  ⟨⟨[], by simp, rfl, by simp⟩, by simp, fun l hl => ⟨pairs l, fun e he => by
    have := pairs_mem e he
    exact ⟨hl.lt _ this.1, hl.lt _ this.2⟩, con_perm hl _, by omega⟩⟩
/-- the best pair so far: what was looked at are the pairs in S -/
structure Best (m : List (List Int)) (I : Nat → Bool) (S : Nat → Nat → Prop) (v : Int) (at' : Nat) : Prop where
  none : v = -1 → ∀ x y, S x y → I x = true → I y = false → False
  some : v ≠ -1 → 0 ≤ v ∧ (∃ x, x < m.length ∧ I x = true ∧ v = wOf m x at') ∧ at' < m.length ∧ I at' = false
  least : v ≠ -1 → ∀ x y, S x y → I x = true → I y = false → v ≤ wOf m x y
theorem TI.step {m : List (List Int)} {k : Nat} {I : Nat → Bool} {s v : Int} {at' : Nat} (h : TI m k I s) (h0 : 0 < k) (hk : k < m.length) (hb : Best m I (fun x y => x < m.length ∧ y < m.length) v at') :
    v ≠ -1 ∧ TI m (k + 1) (fun x => if x = at' then true else I x) (s + v) := by
  have hv : v ≠ -1 := fun e => by
    obtain ⟨y, hy, hyI⟩ := h.out hk
    exact hb.none e 0 y ⟨by omega, hy⟩ (h.zero h0) hyI
  obtain ⟨_, ⟨x, hx, hxI, hvx⟩, ha, haI⟩ := hb.some hv
  refine ⟨hv, ?_, fun _ => ?_, fun l hl => ?_⟩
  · obtain ⟨P, hn, hlen, hP⟩ := h.cnt
    refine ⟨at' :: P, List.nodup_cons.2 ⟨fun hm => ?_, hn⟩, by simp [hlen], fun y => ?_⟩
    · rw [← hP, haI] at hm; cases hm
    · rw [List.mem_cons, ← hP]
      by_cases e : y = at' <;> simp [e]
  · show (if 0 = at' then true else I 0) = true
    split
    · rfl
    · exact h.zero h0
  · obtain ⟨E, hE, hc, hle⟩ := h.low l hl
    obtain ⟨E', hE', hc', hle'⟩ := prim_step (wOf_symm m) hE hc hx hxI ha haI (c := v) (fun a b ha hb2 haI hbI => hb.least hv a b ⟨ha, hb2⟩ haI hbI)
    refine ⟨E', fun e he => hE e (hE' e he), ?_, by omega⟩
    have e : (fun x => I x || x == at') = (fun x => if x = at' then true else I x) := by
      funext x
      by_cases e : x = at' <;> simp [e]
    rw [← e]; exact hc'
theorem Best.skip {m : List (List Int)} {I : Nat → Bool} {S T : Nat → Nat → Prop} {v : Int} {at' : Nat} (h : Best m I S v at') (hT : ∀ x y, T x y → I x = true → I y = false → S x y ∨ (v ≠ -1 ∧ v ≤ wOf m x y)) : Best m I T v at' :=
  ⟨fun e x y ht hx hy => by
    rcases hT x y ht hx hy with h1 | h1
    · exact h.none e x y h1 hx hy
    · exact h1.1 e, h.some, fun e x y ht hx hy => by
    rcases hT x y ht hx hy with h1 | h1
    · exact h.least e x y h1 hx hy
    · exact h1.2⟩
theorem Best.take {m : List (List Int)} (t : MapOk m) {I : Nat → Bool} {S T : Nat → Nat → Prop} {v : Int} {at' i j : Nat} (h : Best m I S v at') (hi : i < m.length) (hj : j < m.length) (hiI : I i = true) (hjI : I j = false) (hv : v = -1 ∨ wOf m i j < v)
    (hT : ∀ x y, T x y → S x y ∨ (x = i ∧ y = j)) : Best m I T (wOf m i j) j := by
  have hb := wOf_bd t i j
  refine ⟨fun e => by omega, fun _ => ⟨hb.1, ⟨i, hi, hiI, rfl⟩, hj, hjI⟩, fun _ x y ht hx hy => ?_⟩
  rcases hT x y ht with h1 | ⟨rfl, rfl⟩
  · rcases hv with hv | hv
    · exact absurd (h.none hv x y h1 hx hy) id
    · have : v ≠ -1 := by omega
      have := h.least this x y h1 hx hy
      omega
  · exact Int.le_refl _

def TreePost (m : List (List Int)) (w : World) (e : Ending) (w' : World) : Prop :=
  w.Since w.heap.size w' ∧ ∃ s : Int, e = .returned (.tuple #[.int .i64 s, .nilIface]) ∧ ∀ l, IsPerm m.length l → s ≤ longOf (dOf m) l
set_option maxHeartbeats 4000000 in
set_option maxRecDepth 100000 in
theorem Tree_ok {A : Option Addr} {cap : Nat} {m : List (List Int)} {w : World} (h : MapAt w A m) (t : MapOk m) :
    Calls Try.prog 11 #[.slice A m.length cap] w (TreePost m w) := by
  have hfew := t.few
  have hmk := run_make_row' (P := Try.prog) 39 4 (.bool false) 1 Try.underlying39 info_bool rfl .i64 .i64 m.length (by omega) (by omega)
  go_enter Try.func11, Try.ntmps11
  go_wp2_with fail
  refine (Check_ok h t).mono ?_
  rintro e w0 ⟨rfl, rfl⟩
  go_wp2
  clear hmk
  go_loopg [6, 23] m.length (fun g s i wr => ∃ (k : Nat) (v : Int) (I : Nat → Bool), k ≤ m.length ∧ g = m.length - k ∧ i = .int .i64 k ∧ s = .int .i64 v ∧ 0 ≤ v ∧ v ≤ 1000000000 * (k : Int) ∧ w.Since w.heap.size wr ∧ wr.rowIs w.heap.size 4 m.length (fun j => .bool (I j)) ∧ Hid (TI m k I v))
  case atStart => exact ⟨0, 0, fun _ => false, Nat.zero_le _, rfl, rfl, rfl, Int.le_refl _, by omega, (World.Since.refl _ _).alloc (Nat.le_refl _) _, World.rowIs_made w _ _ 4, Lib.hid (TI.start m)⟩
  case round =>
    obtain ⟨k, v, I, hk, rfl, rfl, rfl, hv0, hv1, hs, hrow, hT⟩ := hrel
    by_cases hkn : k < m.length
    · have hkz : (k : Int) < (m.length : Int) := by omega
      by_cases hk0 : k = 0
      · have hkb : ((k : Int) == 0) = true := by simp [hk0]
        have g1 := hrow.cell (i := 0) (by omega)
        have g2 := hrow.frozen 0
        have hmz : (0 : Int) < (m.length : Int) := by omega
        go_wp2
        go_roundg (m.length - (k + 1))
        case measure => go_light; omega
        case rel =>
          go_light
          refine ⟨k + 1, v, fun x => if x = 0 then true else I x, by omega, rfl, by go_num, rfl, hv0, by omega, hs.setCell (Nat.le_refl _) _, (hrow.set 0 _).congr (fun j _ => by by_cases e : j = 0 <;> simp [e]), Lib.hid ?_⟩
          have hT0 := hT.out
          obtain ⟨P, hn, hl, hP⟩ := hT0.cnt
          have hPe : P = [] := List.length_eq_zero_iff.1 (by omega)
          subst hPe
          have hI : ∀ x, I x = false := fun x => by
            cases h : I x with
            | false => rfl
            | true => exact absurd ((hP x).1 h) (by simp)
          have hk0' := hk0
          subst hk0'
          exact ⟨⟨[0], by simp, rfl, fun x => by by_cases e : x = 0 <;> simp [e, hI]⟩, fun _ => rfl, fun l hl => ⟨pairs l, fun e he => by
            have := pairs_mem e he
            exact ⟨hl.lt _ this.1, hl.lt _ this.2⟩, con_perm hl _, by omega⟩⟩
      · have hkb : ((k : Int) == 0) = false := by simp; omega
        go_wp2
        go_loopg [8, 9, 32] m.length (fun g b a i wr => ∃ (q : Nat) (bv : Int) (at' : Nat), q ≤ m.length ∧ g = m.length - q ∧ i = .int .i64 q ∧ b = .int .i64 bv ∧ a = .int .i64 at' ∧ -1 ≤ bv ∧ bv ≤ 1000000000 ∧ w.Since w.heap.size wr ∧ wr.rowIs w.heap.size 4 m.length (fun j => .bool (I j)) ∧ Hid (Best m I (fun x y => x < q ∧ y < m.length) bv at'))
        case atStart => exact ⟨0, -1, 0, Nat.zero_le _, rfl, rfl, rfl, rfl, by omega, by omega, hs, hrow, Lib.hid ⟨fun _ x y h => by omega, fun h => absurd rfl h, fun h => absurd rfl h⟩⟩
        case round =>
          clear hs hrow
          obtain ⟨q, bv, at', hq, rfl, rfl, rfl, rfl, hb0, hb1, hs, hrow, hB⟩ := hrel
          by_cases hqn : q < m.length
          · have hqz : (q : Int) < (m.length : Int) := by omega
            go_wp2
            go_loopg [8, 9, 37] m.length (fun g b a j wr => ∃ (p : Nat) (bv : Int) (at' : Nat), p ≤ m.length ∧ g = m.length - p ∧ j = .int .i64 p ∧ b = .int .i64 bv ∧ a = .int .i64 at' ∧ -1 ≤ bv ∧ bv ≤ 1000000000 ∧ w.Since w.heap.size wr ∧ wr.rowIs w.heap.size 4 m.length (fun j => .bool (I j)) ∧ Hid (Best m I (fun x y => (x < q ∧ y < m.length) ∨ (x = q ∧ y < p)) bv at'))
            case atStart => exact ⟨0, bv, at', Nat.zero_le _, rfl, rfl, rfl, rfl, hb0, hb1, hs, hrow, Lib.hid (hB.out.skip (fun x y ht _ _ => by omega))⟩
            case round =>
              clear hs hrow hB hb0 hb1
              obtain ⟨p, bv, at', hp, rfl, rfl, rfl, rfl, hb0, hb1, hs, hrow, hB⟩ := hrel
              by_cases hpn : p < m.length
              · have hpz : (p : Int) < (m.length : Int) := by omega
                have hm2 := h.since hs
                obtain ⟨b, off, A1, c1, rfl, hb, ga, hga⟩ := t.at_ hm2 hqn
                obtain ⟨b', off', A2, c2, hAA, hb', gc, hgc⟩ := t.at_ hm2 hpn
                injection hAA with hAA; injection hAA with e1 e2; subst e1 e2
                obtain ⟨b1, off1, rfl, hb1', gb⟩ := hga p hpn
                obtain ⟨b2, off2, rfl, hb2', gd⟩ := hgc q hqn
                have hd1 := dOf_bd t q p
                have hd2 := dOf_bd t p q
                have hwb := wOf_bd t q p
                have Hw : Hid (wOf m q p = min (dOf m q p) (dOf m p q)) := Lib.hid rfl
                clear hga hgc
                generalize dOf m q p = x1 at *
                generalize dOf m p q = x2 at *
                have i1 := hrow.cell hqn
                have i2 := hrow.cell hpn
                obtain ⟨d, hd⟩ : ∃ d, d = wOf m q p := ⟨_, rfl⟩
                have hmin : (if x2 < x1 then x2 else x1) = d := by rw [hd, Hw.out, Int.min_def]; split <;> split <;> omega
                have Hd := Lib.hid hd
                rw [← hd] at hwb
                clear hd
                have hskip : (I q = true → I p = false → bv ≠ -1 ∧ bv ≤ d) → Best m I (fun x y => (x < q ∧ y < m.length) ∨ (x = q ∧ y < p + 1)) bv at' := fun hh => hB.out.skip (fun x y ht hx hy => by
                  by_cases e : x = q ∧ y = p
                  · obtain ⟨rfl, rfl⟩ := e
                    right; rw [← Hd.out]; exact hh hx hy
                  · left; omega)
                have htake : I q = true → I p = false → (bv = -1 ∨ d < bv) → Best m I (fun x y => (x < q ∧ y < m.length) ∨ (x = q ∧ y < p + 1)) d p := fun h1 h2 h3 => by
                  rw [Hd.out] at h3 ⊢
                  exact hB.out.take t hqn hpn h1 h2 h3 (fun x y ht => by omega)
                have Hsk := Lib.hid hskip
                have Htk := Lib.hid htake
                clear hskip htake
                go_wp2
                go_quiet (fail)
                have hrow' : ∀ n, (wr.drewN n).rowIs w.heap.size 4 m.length (fun j => .bool (I j)) := fun _ => hrow
                cases hIq : I q with
                | false =>
                  rw [hIq] at i1
                  have Hq := Lib.hid hIq
                  clear hIq
                  go_wp2
                  go_roundg (m.length - (p + 1))
                  case measure => go_light; omega
                  case rel =>
                    go_light
                    exact ⟨p + 1, bv, at', by omega, rfl, by go_num, rfl, rfl, hb0, hb1, since_drewN hs _, hrow' _, Lib.hid (Hsk.out (fun h => by rw [Hq.out] at h; cases h))⟩
                | true =>
                  rw [hIq] at i1
                  have Hq := Lib.hid hIq
                  clear hIq
                  cases hIp : I p with
                  | true =>
                    rw [hIp] at i2
                    have Hp := Lib.hid hIp
                    clear hIp
                    go_wp2
                    go_roundg (m.length - (p + 1))
                    case measure => go_light; omega
                    case rel =>
                      go_light
                      exact ⟨p + 1, bv, at', by omega, rfl, by go_num, rfl, rfl, hb0, hb1, since_drewN hs _, hrow' _, Lib.hid (Hsk.out (fun _ h => by rw [Hp.out] at h; cases h))⟩
                  | false =>
                    rw [hIp] at i2
                    have Hp := Lib.hid hIp
                    clear hIp
                    by_cases hbv : bv = -1
                    · subst hbv
                      go_wp2
                      go_roundg (m.length - (p + 1))
                      case measure => go_light; omega
                      case rel =>
                        go_light
                        exact ⟨p + 1, d, p, by omega, rfl, by go_num, rfl, rfl, by omega, by omega, since_drewN hs _, hrow' _, Lib.hid (Htk.out Hq.out Hp.out (.inl (by trivial)))⟩
                    · have hb00 : 0 ≤ bv := by omega
                      have hbf : decide (bv < 0) = false := by simpa using hb00
                      by_cases hless : d < bv
                      · go_wp2
                        go_roundg (m.length - (p + 1))
                        case measure => go_light; omega
                        case rel =>
                          go_light
                          exact ⟨p + 1, d, p, by omega, rfl, by go_num, rfl, rfl, by omega, by omega, since_drewN hs _, hrow' _, Lib.hid (Htk.out Hq.out Hp.out (.inr hless))⟩
                      · have hless' : decide (d < bv) = false := by simpa using hless
                        go_wp2
                        go_roundg (m.length - (p + 1))
                        case measure => go_light; omega
                        case rel =>
                          go_light
                          exact ⟨p + 1, bv, at', by omega, rfl, by go_num, rfl, rfl, hb0, hb1, since_drewN hs _, hrow' _, Lib.hid (Hsk.out (fun _ _ => ⟨hbv, by omega⟩))⟩
              · obtain rfl : m.length = p := by omega
                go_wp2
                go_roundg (m.length - (q + 1))
                case measure => go_light; omega
                case rel =>
                  go_light
                  exact ⟨q + 1, bv, at', by omega, rfl, by go_num, rfl, rfl, hb0, hb1, hs, hrow, Lib.hid (hB.out.skip (fun x y ht _ _ => by omega))⟩
          · obtain rfl : m.length = q := by omega
            obtain ⟨hne, hT2⟩ := hT.out.step (by omega) hkn hB.out
            have hatn : at' < m.length := (hB.out.some hne).2.2.1
            have hatz : (at' : Int) < (m.length : Int) := by omega
            have g1 := hrow.cell hatn
            have g2 := hrow.frozen at'
            have HT2 := Lib.hid hT2
            clear hT2
            go_wp2
            go_roundg (m.length - (k + 1))
            case measure => go_light; omega
            case rel =>
              go_light
              exact ⟨k + 1, v + bv, fun x => if x = at' then true else I x, by omega, rfl, by go_num, rfl, by omega, by omega, hs.setCell (Nat.le_refl _) _, (hrow.set at' _).congr (fun j _ => by by_cases e : j = at' <;> simp [e]), HT2⟩
    · obtain rfl : m.length = k := by omega
      go_wp2
      go_ret2
      refine ⟨hs, v, rfl, fun l hl => ?_⟩
      obtain ⟨E, hE, hc, hle⟩ := hT.out.low l hl
      have h1 := costE_nonneg (fun a b => (wOf_bd t a b).1) E
      have h2 := costE_le (D := dOf m) (wOf_le m) l
      have h3 := pathLen_le_long (D := dOf m) (fun a b => (dOf_bd t a b).1) l
      omega
end Go.Proofs.Ytlopcegpolpndaa
