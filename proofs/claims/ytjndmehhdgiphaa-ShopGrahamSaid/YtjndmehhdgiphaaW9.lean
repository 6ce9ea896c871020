/- shop: fits where there is no job; McNaughton refuses; ShopMcNaughtoned's walk. -/
import Derived.Test.YtjndmehhdgiphaaW8
namespace Go.Proofs.Ytjndmehhdgiphaa
open Go.RowKit PermM McM

set_option maxHeartbeats 2000000 in
set_option maxRecDepth 100000 in
theorem fits_nil {A P : Option Addr} {cap c : Nat} {M E : Int} {w : World} : Calls Try.prog 12 #[.slice A 0 cap, .int .i64 M, .int .i64 E, .slice P 0 c] w (TruePost w) := by
  have hs : w.Since w.heap.size (w.alloc (.cells #[] 3)) := (World.Since.refl _ _).alloc (Nat.le_refl _) _
  cases A
  all_goals
    go_enter Try.func12, Try.ntmps12
    go_wp2
    generalize w.alloc (.cells #[] 3) = w1 at *
    go_loopg [10] 0 (fun gh iv wx => iv = .int .i64 0 ∧ gh = 0 ∧ w1 = wx)
    case atStart => exact ⟨rfl, rfl, rfl⟩
    case round =>
      obtain ⟨rfl, rfl, rfl⟩ := hrel
      go_wp2
      go_loopg [14] 0 (fun gh iv wx => iv = .int .i64 0 ∧ gh = 0 ∧ w1 = wx)
      case atStart => exact ⟨rfl, rfl, rfl⟩
      case round =>
        obtain ⟨rfl, rfl, rfl⟩ := hrel
        go_wp2
        go_ret
        exact ⟨rfl, hs⟩
theorem fits_any {A P : Option Addr} {cap c : Nat} {l : List Int} {M E : Int} {ps : List Quad} {w : World} (h : IntsAt w A l) (hp : QuadAt w P ps) (t : FitsIn l M E ps) (hl2 : l.length ≤ 60) (hps : ps.length ≤ 60000000000) (hE0 : 0 ≤ E) (hE : E ≤ 60000000020) :
    Calls Try.prog 12 #[.slice A l.length cap, .int .i64 M, .int .i64 E, .slice P ps.length c] w (TruePost w) := by
  by_cases hl : 0 < l.length
  · exact fits_ok h hp t hl hl2 hps hE0 hE
  · have h0 : l.length = 0 := by omega
    have h1 : ps.length = 0 := by
      cases ps with
      | nil => rfl
      | cons x ps =>
        have := (t.fits.each x (List.mem_cons_self ..))
        omega
    rw [h0, h1]
    exact fits_nil
def McBad (w : World) (e : Ending) (w' : World) : Prop := w = w' ∧ ∃ k : Int, e = .returned (.tuple #[.int .i64 0, .slice none 0 0, .iface 50 (.int .i64 k)])
theorem Mc_bad {A : Option Addr} {cap : Nat} {l : List Int} {M : Int} {w : World} (h : IntsAt w A l) (hlen : l.length ≤ 9223372036854775807) (t : ¬ LensOk l M) :
    Calls Try.prog 11 #[.slice A l.length cap, .int .i64 M] w (McBad w) := by
  have C1 := Lib.hid (lengths_bad (cap := cap) h hlen t)
  clear h t
  go_enter Try.func11, Try.ntmps11
  go_wp2_with fail
  refine C1.out.mono ?_
  rintro e w1 ⟨⟨k, rfl⟩, rfl⟩
  go_wp2
  go_ret3
  exact ⟨rfl, k, rfl⟩
set_option maxHeartbeats 8000000 in
set_option maxRecDepth 100000 in
theorem mcnaughtoned_any {A : Option Addr} {cap : Nat} {l : List Int} {M : Int} {w : World} (h : IntsAt w A l) (hlen : l.length ≤ 9223372036854775807) :
    Calls Try.prog 4 #[.slice A l.length cap, .int .i64 M] w (TruePost w) := by
  by_cases h30 : 30 < l.length
  · have h30z : (30 : Int) < (l.length : Int) := by omega
    clear h
    go_enter Try.func4, Try.ntmps4
    go_wp2
    go_ret
    exact ⟨rfl, World.Since.refl _ _⟩
  have h30' : l.length ≤ 30 := by omega
  have h30z : (l.length : Int) ≤ 30 := by omega
  clear h30
  by_cases t : LensOk l M
  · have hlo := t.lo
    have hhi := t.hi
    have C1 := Lib.hid (Mc_ok (cap := cap) h t)
    have H := Lib.hid h
    have HT := Lib.hid t
    obtain ⟨q1, q2, q3⟩ := mc_end (m := M) (most := mostL l) (all := pre l l.length) (E := endL l M) t.lo rfl
    have hmo := (mostL_ge l).1
    have hpb := pre_bd (B := 1000000000) (by omega) t.ok l.length (Nat.le_refl _)
    have hmb : mostL l ≤ 1000000000 := by
      have : ∀ k, k ≤ l.length → mostL (l.take k) ≤ 1000000000 := by
        intro k
        induction k with
        | zero => intro _; simp [mostL]
        | succ k ih =>
          intro hk
          have := ih (by omega)
          have hx : l[k]? = some l[k] := List.getElem?_eq_getElem (by omega)
          have := (t.ok _ (List.mem_of_getElem? hx)).2
          rw [mostL_snoc hx]
          omega
      have := this l.length (Nat.le_refl _)
      rw [List.take_length] at this
      exact this
    have hEb : endL l M ≤ 30000000020 := by
      have hd : (pre l l.length + M - 1) / M ≤ 30000000020 := Int.le_trans (Int.ediv_le_self _ (by omega)) (by omega)
      unfold endL
      omega
    have hE0 : 0 ≤ endL l M := by omega
    obtain ⟨E, hE⟩ : ∃ E, E = endL l M := ⟨_, rfl⟩
    rw [← hE] at q1 q2 q3 hEb hE0
    have HE := Lib.hid hE
    have hx0 : 0 ≤ E * M := Int.mul_nonneg hE0 (by omega)
    have hx1 : E * M ≤ 30000000020 * 20 := Int.mul_le_mul hEb hhi (by omega) (by omega)
    have hx2 : -20 ≤ (E - 1) * M := by rw [Int.sub_mul]; omega
    have hx3 : (E - 1) * M ≤ 30000000020 * 20 := by rw [Int.sub_mul]; omega
    obtain ⟨most, hmost⟩ : ∃ m, m = mostL l := ⟨_, rfl⟩
    obtain ⟨all, hall⟩ : ∃ a, a = pre l l.length := ⟨_, rfl⟩
    rw [← hmost] at q1 q2 hmo hmb
    rw [← hall] at q1 q3 hpb
    have Hmost := Lib.hid hmost
    have Hall := Lib.hid hall
    have Q1 := Lib.hid q1
    clear h t hE hmost hall q1
    go_enter Try.func4, Try.ntmps4
    go_wp2_with fail
    refine C1.out.mono ?_
    rintro e w1 ⟨hs1, ps, P, c, rfl, hres, hP⟩
    rw [← HE.out]
    have Hres := Lib.hid hres
    have hpl := hres.few
    clear hres
    go_wp2_with fail
    refine (flowed_any _).mono ?_
    rintro e w2 ⟨rfl, hs2⟩
    have hs02 := since_join hs1 hs2
    have HP2 := Lib.hid (hP.same hs2)
    clear hP hs1 hs2
    go_wp2
    go_loopg [8, 9, 10] l.length (fun gh av mv iv wr => ∃ (k : Nat) (v e : Int), k ≤ l.length ∧ gh = l.length - k ∧ iv = .int .i64 k ∧ av = .int .i64 v ∧ mv = .int .i64 e ∧ 0 ≤ v ∧ v ≤ 1000000000 * k ∧ 0 ≤ e ∧ e ≤ 1000000000 ∧ Hid (v = pre l k) ∧ Hid (e = mostL (l.take k)) ∧ w2 = wr)
    case atStart => exact ⟨0, 0, 0, Nat.zero_le _, rfl, rfl, rfl, rfl, by omega, by omega, by omega, by omega, Lib.hid (by simp [pre]), Lib.hid (by simp [mostL]), rfl⟩
    case round =>
      obtain ⟨k, v, e, hk, rfl, rfl, rfl, rfl, v0, v1, e0, e1, hv, he, rfl⟩ := hrel
      by_cases hkl : k < l.length
      · have hkz : (k : Int) < (l.length : Int) := by omega
        obtain ⟨b, off, rfl, hb, hc⟩ := H.out k hkl
        obtain ⟨x, hx⟩ : ∃ x, l[k]? = some x := ⟨l[k], List.getElem?_eq_getElem hkl⟩
        have c0 := hc k x hx
        rw [← hs02.cell (show b < w.heap.size from hb)] at c0
        have hx01 := HT.out.ok x (List.mem_of_getElem? hx)
        obtain ⟨x0, x1⟩ := hx01
        have Hx := Lib.hid hx
        clear hc hx
        by_cases hmx : x ≤ e
        · go_wp2
          go_roundg (l.length - (k + 1))
          case measure => go_light; omega
          case rel =>
            go_light
            exact ⟨k + 1, v + x, e, by omega, rfl, by go_num, rfl, rfl, by omega, by omega, e0, e1, Lib.hid (by rw [pre_at Hx.out, hv.out]), Lib.hid (by rw [mostL_snoc Hx.out, ← he.out]; omega), rfl⟩
        · have hmx' : e < x := by omega
          clear hmx
          go_wp2
          go_roundg (l.length - (k + 1))
          case measure => go_light; omega
          case rel =>
            go_light
            exact ⟨k + 1, v + x, x, by omega, rfl, by go_num, rfl, rfl, by omega, by omega, x0, x1, Lib.hid (by rw [pre_at Hx.out, hv.out]), Lib.hid (by rw [mostL_snoc Hx.out, ← he.out]; omega), rfl⟩
      · obtain rfl : l.length = k := by omega
        have hva : v = all := by rw [hv.out, Hall.out]
        have hem : e = most := by rw [he.out, Hmost.out, List.take_length]
        obtain rfl : all = v := hva.symm
        obtain rfl : most = e := hem.symm
        have hfi : FitsIn l M E ps := ⟨HT.out.ok, by have := Hres.out.fits; rw [← HE.out] at this; exact this⟩
        have C2 := Lib.hid (fits_any (cap := cap) (c := c) (H.out.since (Nat.le_refl _) hs02) HP2.out hfi (by omega) hpl hE0 (by omega))
        clear hfi hva hem hv he
        by_cases hEm : E = most
        · have b1 : (E == most) = true := beq_iff_eq.2 hEm
          have HEm := Lib.hid hEm
          clear hEm
          go_wp2_with fail
          refine C2.out.mono ?_
          rintro e w3 ⟨rfl, hs3⟩
          go_wp2
          go_ret
          exact ⟨rfl, since_join hs02 hs3⟩
        · have b1 : (E == most) = false := beq_eq_false_iff_ne.2 hEm
          have hlt : (E - 1) * M < all := Q1.out.resolve_left hEm
          clear hEm
          go_wp2_with fail
          refine C2.out.mono ?_
          rintro e w3 ⟨rfl, hs3⟩
          go_wp2
          go_ret
          exact ⟨rfl, since_join hs02 hs3⟩
  · have C1 := Lib.hid (Mc_bad (cap := cap) h hlen t)
    clear h t
    go_enter Try.func4, Try.ntmps4
    go_wp2_with fail
    refine C1.out.mono ?_
    rintro e w1 ⟨rfl, k, rfl⟩
    go_wp2_with fail
    refine (flowed_any _).mono ?_
    rintro e w2 ⟨rfl, hs2⟩
    go_wp2_with fail
    refine (flowed_any _).mono ?_
    rintro e w3 ⟨rfl, hs3⟩
    go_wp2
    go_ret
    exact ⟨rfl, since_join hs2 hs3⟩
end Go.Proofs.Ytjndmehhdgiphaa
