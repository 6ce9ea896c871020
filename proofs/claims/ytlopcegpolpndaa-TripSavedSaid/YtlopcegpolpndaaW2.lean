/- trip.Long: how long a round way is. -/
import Derived.Test.YtlopcegpolpndaaW1
namespace Go.Proofs.Ytlopcegpolpndaa
open Go.RowKit PermM TripM

theorem since_drewN {w wr : World} {B : Nat} (h : w.Since B wr) (n : Nat) : w.Since B (wr.drewN n) := ⟨h.os, h.tape, h.output, h.size, h.block⟩
theorem lastD_take {l : List Nat} {k : Nat} (h0 : 0 < k) (hk : k ≤ l.length) : (l.take k).getLastD 0 = l.getD (k - 1) 0 := by
  rw [List.getLastD_eq_getLast?, List.getLast?_eq_getElem?, List.length_take, List.getElem?_take]
  rw [if_pos (by omega), List.getD_eq_getElem?_getD]
  congr 2; omega
theorem pathLen_step {D : Nat → Nat → Int} {l : List Nat} {k p : Nat} (hp : l[k]? = some p) : pathLen D (l.take (k + 1)) = if k = 0 then 0 else pathLen D (l.take k) + D (l.getD (k - 1) 0) p := by
  have hk := (List.getElem?_eq_some_iff.1 hp).1
  rw [take_snoc' hp]
  by_cases h0 : k = 0
  · subst h0; simp [pathLen]
  · rw [if_neg h0, pathLen_snoc _ _ _ (by intro e; have := congrArg List.length e; simp at this; rcases this with h | h; exact h0 h; subst h; simp at hk), lastD_take (by omega) (by omega)]
theorem longOf_eq (D : Nat → Nat → Int) (l : List Nat) : longOf D l = if 1 < l.length then pathLen D l + D (l.getD (l.length - 1) 0) (l.getD 0 0) else 0 := by
  match l with
  | [] => rfl
  | [_] => rfl
  | a :: b :: r =>
    rw [if_pos (by simp)]
    simp only [longOf]
    congr 2
    have := lastD_take (l := a :: b :: r) (k := (a :: b :: r).length) (by simp) (Nat.le_refl _)
    rw [List.take_of_length_le (Nat.le_refl _)] at this
    rw [← this]; simp
def LongPost (v : Int) (w : World) (e : Ending) (w' : World) : Prop := w.Since w.heap.size w' ∧ e = .returned (.tuple #[.int .i64 v, .nilIface])
theorem getD_of {l : List Nat} {k p : Nat} (h : l[k]? = some p) : l.getD k 0 = p := by rw [List.getD_eq_getElem?_getD, h]; rfl
theorem ints_at {w : World} {A : Option Addr} {l : List Nat} (h : IntsAt w A (ints l)) {k : Nat} (hk : k < l.length) : ∃ b off, A = some ⟨b, off, none⟩ ∧ b < w.heap.size ∧ ∀ i p, l[i]? = some p → w.cell? ⟨b, off + i, none⟩ = some (.int .i64 (p : Nat)) := by
  obtain ⟨b, off, hA, hb, hc⟩ := h k (by rw [ints_len]; exact hk)
  exact ⟨b, off, hA, hb, fun i p hp => hc i p (by unfold ints; rw [List.getElem?_map, hp]; rfl)⟩

set_option maxHeartbeats 2000000 in
theorem Long_ok {A C : Option Addr} {cap cap2 : Nat} {m : List (List Int)} {l : List Nat} {w : World} (h : MapAt w A m) (t : MapOk m) (hl : IntsAt w C (ints l)) (hlt : ∀ x ∈ l, x < m.length) (hlen : l.length ≤ 100) :
    Calls Try.prog 9 #[.slice A m.length cap, .slice C l.length cap2] w (LongPost (longOf (dOf m) l) w) := by
  have hfew := t.few
  go_enter Try.func9, Try.ntmps9
  go_wp2_with fail
  refine (Check_ok h t).mono ?_
  rintro e w0 ⟨rfl, rfl⟩
  go_wp2
  go_loopg [7, 21] l.length (fun g s i wr => ∃ (k : Nat) (sv : Int), k ≤ l.length ∧ g = l.length - k ∧ i = .int .i64 k ∧ s = .int .i64 sv ∧ w = wr ∧ 0 ≤ sv ∧ sv ≤ 1000000000 * (k : Int) ∧ Hid (sv = pathLen (dOf m) (l.take k)))
  case atStart => exact ⟨0, 0, Nat.zero_le _, rfl, rfl, rfl, rfl, Int.le_refl _, by omega, Lib.hid (by simp [pathLen])⟩
  case round =>
    obtain ⟨k, sv, hk, rfl, rfl, rfl, rfl, hs0, hs1, hS⟩ := hrel
    by_cases hkl : k < l.length
    · have hkz : (k : Int) < (l.length : Int) := by omega
      obtain ⟨b2, off2, rfl, hb2, hc2⟩ := ints_at hl hkl
      obtain ⟨p, hp⟩ : ∃ p, l[k]? = some p := ⟨l[k], List.getElem?_eq_getElem hkl⟩
      have hpn := hlt p (List.mem_of_getElem? hp)
      have hpz : (p : Int) < (m.length : Int) := by omega
      have c0 := hc2 k p hp
      by_cases hk0 : k = 0
      · subst hk0
        rw [Nat.add_zero] at c0
        have Hst : Hid (pathLen (dOf m) (l.take (0 + 1)) = 0) := Lib.hid (by rw [pathLen_step hp, if_pos rfl])
        have Hs2 : Hid (pathLen (dOf m) (l.take 0) = 0) := Lib.hid (by simp [pathLen])
        clear hp hc2
        go_wp2
        go_roundg (l.length - (0 + 1))
        case measure => go_light; omega
        case rel =>
          go_light
          exact ⟨0 + 1, sv, by omega, rfl, by go_num, rfl, rfl, hs0, by omega, Lib.hid (by rw [Hst.out, hS.out, Hs2.out])⟩
      · obtain ⟨q, hq⟩ : ∃ q, l[k - 1]? = some q := ⟨l[k - 1], List.getElem?_eq_getElem (by omega)⟩
        have hqn := hlt q (List.mem_of_getElem? hq)
        have hqz : (q : Int) < (m.length : Int) := by omega
        have c1 := hc2 (k - 1) q hq
        obtain ⟨b, off, A', c', rfl, hb, g1, hg2⟩ := t.at_ h hqn
        obtain ⟨b', off', rfl, hb', g2⟩ := hg2 p hpn
        have hd := dOf_bd t q p
        have Hst : Hid (pathLen (dOf m) (l.take (k + 1)) = pathLen (dOf m) (l.take k) + dOf m q p) := Lib.hid (by rw [pathLen_step hp, if_neg hk0, getD_of hq])
        clear hp hq hc2 hg2
        have hk1 : (0 : Int) < (k : Int) := by omega
        have hk2 : 0 < k := by omega
        generalize dOf m q p = d at g2 hd Hst
        go_wp2
        go_roundg (l.length - (k + 1))
        case measure => go_light; omega
        case rel =>
          go_light
          exact ⟨k + 1, sv + d, by omega, rfl, by go_num, rfl, rfl, by omega, by omega, Lib.hid (by rw [Hst.out, hS.out])⟩
    · obtain rfl : l.length = k := by omega
      have hS2 := hS.out
      rw [List.take_of_length_le (Nat.le_refl _)] at hS2
      have HS2 := Lib.hid hS2
      clear hS2
      by_cases hl1 : 1 < l.length
      · obtain ⟨b2, off2, rfl, hb2, hc2⟩ := ints_at hl (show 0 < l.length by omega)
        obtain ⟨p, hp⟩ : ∃ p, l[0]? = some p := ⟨l[0], List.getElem?_eq_getElem (by omega)⟩
        obtain ⟨q, hq⟩ : ∃ q, l[l.length - 1]? = some q := ⟨l[l.length - 1], List.getElem?_eq_getElem (by omega)⟩
        have hpn := hlt p (List.mem_of_getElem? hp)
        have hqn := hlt q (List.mem_of_getElem? hq)
        have hpz : (p : Int) < (m.length : Int) := by omega
        have hqz : (q : Int) < (m.length : Int) := by omega
        have c0 := hc2 0 p hp
        have c1 := hc2 (l.length - 1) q hq
        rw [Nat.add_zero] at c0
        obtain ⟨b, off, A', c', rfl, hb, g1, hg2⟩ := t.at_ h hqn
        obtain ⟨b', off', rfl, hb', g2⟩ := hg2 p hpn
        have hd := dOf_bd t q p
        have Hst : Hid (longOf (dOf m) l = pathLen (dOf m) l + dOf m q p) := Lib.hid (by rw [longOf_eq, if_pos hl1, getD_of hq, getD_of hp])
        clear hp hq hc2 hg2
        have hl2 : (1 : Int) < (l.length : Int) := by omega
        generalize dOf m q p = d at g2 hd Hst
        go_wp2
        go_quiet (fail)
        go_wp2
        go_ret2
        exact ⟨since_drewN (World.Since.refl _ _) _, by rw [Hst.out, ← HS2.out]; rfl⟩
      · have Hst : Hid (longOf (dOf m) l = sv) := Lib.hid (by
          rw [longOf_eq, if_neg hl1, HS2.out]
          match l, hl1 with
          | [], _ => rfl
          | [_], _ => rfl
          | _ :: _ :: _, h => simp at h)
        go_wp2
        go_ret2
        exact ⟨World.Since.refl _ _, by rw [Hst.out]; rfl⟩
end Go.Proofs.Ytlopcegpolpndaa
