/- TripTurned's walk: whatever comes, true; nothing that was there turns. -/
import Derived.Test.YtlopcegpolpndaaW7
namespace Go.Proofs.Ytlopcegpolpndaa
open Go.RowKit PermM TripM

def TruePost (w : World) (e : Ending) (w' : World) : Prop := e = .returned (.bool true) ∧ w.Since w.heap.size w'

/-- a piece turned over, done up to place j -/
def turnF (l : List Nat) (i k j : Nat) (x : Nat) : Value := if i ≤ x ∧ x < j then natsV l (i + k - x) else natsV l x
theorem few_of {m : List (List Int)} (t : MapOk m) {r : Int} (hr : r = (m.length : Int) + m.length * m.length) (h : r ≤ 60) : m.length ≤ 7 := by
  have := t.few
  match hm : m.length with
  | 0 | 1 | 2 | 3 | 4 | 5 | 6 | 7 => omega
  | 8 => rw [hm] at hr; omega
  | 9 => rw [hm] at hr; omega
  | k + 10 => omega

set_option maxHeartbeats 8000000 in
set_option maxRecDepth 100000 in
theorem turned_any {A C : Option Addr} {cap cap2 : Nat} {m : List (List Int)} {mix : List Int} {w : World} (h : MapAt w A m) (hlen : m.length ≤ 8796093022208) (hrl : ∀ r ∈ m, r.length ≤ 9223372036854775807) (hI : IntsAt w C mix) (hmix : mix.length ≤ 9223372036854775807) :
    Calls Try.prog 4 #[.slice A m.length cap, .slice C mix.length cap2] w (TruePost w) := by
  go_enter Try.func4, Try.ntmps4
  go_wp2_with fail
  refine (numbers_any h (by omega) hrl).mono ?_
  rintro e w0 ⟨rfl, r, rfl, hR⟩
  by_cases hr60 : 60 < r
  · go_wp2
    go_ret
    exact ⟨rfl, World.Since.refl _ _⟩
  have hr60' : r ≤ 60 := by omega
  by_cases hm50 : 50 < mix.length
  · have hm50z : (50 : Int) < (mix.length : Int) := by omega
    go_wp2
    go_ret
    exact ⟨rfl, World.Since.refl _ _⟩
  have hm50' : mix.length ≤ 50 := by omega
  have hm50z : (mix.length : Int) ≤ 50 := by omega
  have HR := Lib.hid (fun t => few_of t (hR t) hr60')
  clear hR hr60 hm50
  go_wp2_with fail
  refine (shuffled_any m.length C cap2 mix w hlen hI (by omega)).mono ?_
  rintro e w1 ⟨hs1, rfl, l0, hp0, hr0⟩
  have hI0 : IntsAt w1 (some ⟨w.heap.size, 0, none⟩) (ints l0) := natsAt hp0.len hr0
  have hm1 := h.since hs1
  have hC1 : w.heap.size < w1.heap.size := hr0.lt
  go_wp2_with fail
  refine (Better_any (A := A) (cap := cap) (cap2 := m.length) hm1 (by omega) hrl hI0 hp0 ⟨_, rfl, hC1⟩).mono ?_
  rintro e w2 ⟨hs2, ⟨k, rfl⟩ | ⟨t, A2, c2, l, rfl, hl2, hpl, hle, hsym, hno⟩⟩
  · go_wp2_with fail
    refine (around_any _).mono ?_
    rintro e w3 ⟨rfl, hs3⟩
    go_wp2_with fail
    refine (around_any _).mono ?_
    rintro e w4 ⟨rfl, hs4⟩
    go_wp2
    go_ret
    exact ⟨rfl, since_join (since_join (since_join hs1 hs2) hs3) hs4⟩
  go_wp2_with fail
  refine (around_any _).mono ?_
  rintro e w3 ⟨rfl, hs3⟩
  have hs23 := since_join hs2 hs3
  have hs13 := since_join hs1 hs23
  have hm3 := h.since hs13
  have hl3 := hl2.since (Nat.le_refl _) hs3
  have hl03 := hI0.since (Nat.le_refl _) hs23
  have hfew := HR.out t
  have hmk := run_make_row' (P := Try.prog) 39 4 (.bool false) 1 Try.underlying39 info_bool rfl .i64 .i64 m.length (by omega) (by omega)
  have hbn : ((m.length : Int) != (m.length : Int)) = false := by simp
  have hln := hpl.len
  have hl0n := hp0.len
  have Hsym := Lib.hid hsym
  have Hno := Lib.hid hno
  have Hle := Lib.hid hle
  have HI := Lib.hid hI
  clear hsym hno hle hl2 hI0 hm1 hr0 hs2 hI
  go_wp2
  clear hmk
  go_loopg [9] m.length (fun g i wr => ∃ (k : Nat) (f : Nat → Bool), k ≤ m.length ∧ g = m.length - k ∧ i = .int .i64 k ∧ w3.Since w3.heap.size wr ∧ wr.rowIs w3.heap.size 4 m.length (fun j => .bool (f j)) ∧ Hid (∀ j, f j = true ↔ j ∈ l.take k))
  case atStart => exact ⟨0, fun _ => false, Nat.zero_le _, rfl, rfl, (World.Since.refl _ _).alloc (Nat.le_refl _) _, World.rowIs_made w3 _ _ 4, Lib.hid (by simp)⟩
  case round =>
    obtain ⟨k, f, hk, rfl, rfl, hs, hrow, hF⟩ := hrel
    by_cases hkn : k < m.length
    · have hkz : (k : Int) < (m.length : Int) := by omega
      obtain ⟨b2, off2, rfl, hb2, hc2⟩ := ints_at (hl3.since (Nat.le_refl _) hs) (show k < l.length by omega)
      obtain ⟨p, hp⟩ : ∃ p, l[k]? = some p := ⟨l[k], List.getElem?_eq_getElem (by omega)⟩
      have hpn := hpl.lt p (List.mem_of_getElem? hp)
      have hpz : (p : Int) < (m.length : Int) := by omega
      have c0 := hc2 k p hp
      have g1 := hrow.cell hpn
      have g2 := hrow.frozen p
      have hfp : f p = false := by
        rw [Bool.eq_false_iff]
        intro hf
        have hmem := (hF.out p).1 hf
        have h2 := hpl.nodup
        rw [← List.take_append_drop (k + 1) l, List.nodup_append] at h2
        have h3 := h2.1
        rw [take_snoc' hp, List.nodup_append] at h3
        exact h3.2.2 _ hmem p (by simp) rfl
      rw [hfp] at g1
      have Hp := Lib.hid hp
      clear hc2 hfp hp
      go_wp2
      go_roundg (m.length - (k + 1))
      case measure => go_light; omega
      case rel =>
        go_light
        refine ⟨k + 1, fun j => if j = p then true else f j, by omega, rfl, by go_num, hs.setCell (Nat.le_refl _) _, (hrow.set p _).congr (fun j _ => by by_cases e : j = p <;> simp [e]), Lib.hid (fun j => ?_)⟩
        rw [take_snoc' Hp.out, List.mem_append, ← hF.out j]
        by_cases e : j = p
        · subst e; simp
        · simp [e]
    · obtain rfl : m.length = k := by omega
      have hsW := since_join hs13 hs
      have hlm := hl03.since (Nat.le_refl _) hs
      have c1 := Long_ok (cap := cap) (cap2 := m.length) (h.since hsW) t hlm hp0.lt (by omega)
      rw [hl0n] at c1
      have C1 := Lib.hid c1
      clear hrow hF c1
      go_wp2_with fail
      refine C1.out.mono ?_
      rintro e w4 ⟨hs4, rfl⟩
      have hsx := since_join hs hs4
      have c2' := Long_ok (cap := cap) (cap2 := c2) (h.since (since_join hs13 hsx)) t (hl3.since (Nat.le_refl _) hsx) hpl.lt (by omega)
      rw [hln] at c2'
      have C2 := Lib.hid c2'
      clear c2'
      go_wp2_with fail
      refine C2.out.mono ?_
      rintro e w5 ⟨hs5, rfl⟩
      have hsy := since_join hsx hs5
      obtain ⟨va, hva⟩ : ∃ v, v = longOf (dOf m) l0 := ⟨_, rfl⟩
      obtain ⟨vb, hvb⟩ : ∃ v, v = longOf (dOf m) l := ⟨_, rfl⟩
      have hvab : ¬ va < vb := by rw [hva, hvb]; have := Hle.out; omega
      have hvab' : decide (va < vb) = false := by simpa using hvab
      rw [← hva, ← hvb]
      have Hvb := Lib.hid hvb
      clear hva hvb hvab
      go_wp2
      go_loopg [14] m.length (fun g i wr => ∃ k : Nat, 1 ≤ k ∧ k ≤ m.length + 1 ∧ g = m.length + 1 - k ∧ i = .int .i64 k ∧ w3.Since w3.heap.size wr)
      case atStart => exact ⟨1, Nat.le_refl _, by omega, rfl, rfl, hsy⟩
      case round =>
        clear hsy hsx hs5 hs4 hs
        obtain ⟨i, hi1, hi2, rfl, rfl, hs⟩ := hrel
        by_cases him : i < m.length
        · have hiz : (i : Int) < (m.length : Int) := by omega
          go_wp2
          go_loopg [15] (m.length - (i + 1)) (fun g kk wr => ∃ k : Nat, i < k ∧ k ≤ m.length ∧ g = m.length - k ∧ kk = .int .i64 k ∧ w3.Since w3.heap.size wr)
          case atStart => exact ⟨i + 1, by omega, by omega, rfl, by go_num, hs⟩
          case round =>
            clear hs
            obtain ⟨k, hik, hkm, rfl, rfl, hs⟩ := hrel
            by_cases hk : k < m.length
            · have hkz : (k : Int) < (m.length : Int) := by omega
              obtain ⟨wq, rfl⟩ : ∃ wq, wq = wr := ⟨_, rfl⟩
              have hls := hl3.since (Nat.le_refl _) hs
              obtain ⟨b2, off2, rfl, hb2, hc2⟩ := ints_at hls (show 0 < l.length by omega)
              obtain ⟨i0, hi0, hz0, hz1, hz2⟩ := info_parts info_int
              have hown0 := own_empty wq
              have hs0 : w3.Since w3.heap.size (wq.alloc (.cells #[] 3)) := hs.alloc hs.size _
              have hx2 : ∀ j u, (l.map fun (x : Nat) => Value.int .i64 (x : Int))[j]? = some u → (wq.alloc (.cells #[] 3)).cell? ((⟨b2, off2, none⟩ : Addr).add j) = some u := fun j u hu => by
                rw [List.getElem?_map, Option.map_eq_some_iff] at hu
                obtain ⟨x, hx, rfl⟩ := hu
                rw [add_plain, World.cell?_alloc_lt _ _ _ (show b2 < wq.heap.size from hb2)]
                exact hc2 j x hx
              have Hx2 := Lib.hid hx2
              have H1 := Lib.hid (show ∀ u ∈ (l.map fun (x : Nat) => Value.int .i64 (x : Int)), u.oneCell' = true by intro u hu; obtain ⟨x, _, rfl⟩ := List.mem_map.1 hu; rfl)
              clear hx2
              go_wp2_with (at_builtin; refine wpList_append_own _ rfl _ _ 23 rfl wq.heap.size 3 i0 (.int .i64 0) 1 8 Try.underlying23 hi0 hz0 hz1 hz2 rfl (by decide) _ _ _ rfl hown0 ⟨b2, off2, none⟩ m.length c2 (l.map fun (x : Nat) => Value.int .i64 (x : Int)) rfl (by simp [hln]) Hx2.out H1.out (by unfold maxLen; omega) (by omega) (by simp) ?_; intro v8 w8 hown8 hg8 _)
              have hs8r : wq.Since wq.heap.size w8 := own_since ((World.Since.refl _ _).alloc (Nat.le_refl _) _) hown0 hg8 (by simp)
              have hs8 := since_join hs hs8r
              have hown8' : w8.ownsRow wq.heap.size 3 1 v8 (l.map fun (x : Nat) => Value.int .i64 (x : Int)).length (l.map fun (x : Nat) => Value.int .i64 (x : Int)) := by
                rw [vals_len, hln]; simpa using hown8
              obtain ⟨A3, c3, rfl, hc3, _, ho3⟩ := own_row hown8'
              rw [vals_len, hln] at hc3 ho3
              rw [vals_len, hln]
              obtain ⟨g3, f3, rfl, hg3, hr3, hf3⟩ := ho3 (by omega)
              have hr3' : w8.rowIs g3 3 c3 (fun x => if x < m.length then turnF l i k i x else f3 x) := hr3.congr (fun x hx => by
                by_cases hxn : x < m.length
                · rw [if_pos hxn, hf3 x hxn, vals_getD l x (by omega)]
                  unfold turnF; rw [if_neg (by omega)]
                · rw [if_neg hxn])
              have hb2l : b2 < w8.heap.size := by have := hs8r.size; omega
              clear hown0 hs0 Hx2 H1 hown8 hown8' ho3 hf3 hr3 hg8
              have hgw : wq.heap.size ≤ g3 := hg3
              have Hc2 := Lib.hid hc2
              clear hc2
              go_wp2
              go_loopg [17] (k + 1 - i) (fun g jj wr => ∃ j : Nat, i ≤ j ∧ j ≤ k + 1 ∧ g = k + 1 - j ∧ jj = .int .i64 j ∧ wq.Since wq.heap.size wr ∧ wr.rowIs g3 3 c3 (fun x => if x < m.length then turnF l i k j x else f3 x))
              case atStart => exact ⟨i, Nat.le_refl _, by omega, rfl, rfl, hs8r, hr3'⟩
              case round =>
                clear hr3' hs8r hs8
                obtain ⟨j, hij, hjk, rfl, rfl, hsj, hrj⟩ := hrel
                by_cases hjk2 : j ≤ k
                · have hjz : (j : Int) ≤ (k : Int) := by omega
                  obtain ⟨p, hp⟩ : ∃ p, l[i + k - j]? = some p := ⟨l[i + k - j], List.getElem?_eq_getElem (by omega)⟩
                  have c0 := Hc2.out _ p hp
                  rw [← hsj.cell (show b2 < wq.heap.size from hb2)] at c0
                  have hz0 : 0 ≤ (i : Int) + k - j := by omega
                  have hz1 : (i : Int) + k - j < (m.length : Int) := by omega
                  have hzt : ((i : Int) + k - j).toNat = i + k - j := by omega
                  have hjc : j < c3 := by omega
                  have c1 := hrj.cell hjc
                  have c2' := hrj.frozen j
                  have hjm : j < m.length := by omega
                  have hjmz : (j : Int) < (m.length : Int) := by omega
                  rw [if_pos hjm, show turnF l i k j j = natsV l j by unfold turnF; rw [if_neg (by omega)]] at c1
                  unfold natsV at c1
                  have Hp := Lib.hid hp
                  clear hp
                  go_wp2
                  go_roundg (k + 1 - (j + 1))
                  case measure => go_light; omega
                  case rel =>
                    go_light
                    refine ⟨j + 1, by omega, by omega, rfl, by go_num, hsj.setCell hgw _, (hrj.set j _).congr (fun x hx => ?_)⟩
                    by_cases e : x = j
                    · subst e
                      rw [if_pos rfl, if_pos hjm]
                      unfold turnF natsV
                      rw [if_pos (by omega), List.getD_eq_getElem?_getD, Hp.out]; rfl
                    · rw [if_neg e]
                      by_cases hxm : x < m.length
                      · rw [if_pos hxm, if_pos hxm]
                        unfold turnF
                        by_cases hq : i ≤ x ∧ x < j
                        · rw [if_pos hq, if_pos (by omega)]
                        · rw [if_neg hq, if_neg (by omega)]
                      · rw [if_neg hxm, if_neg hxm]
                · obtain rfl : j = k + 1 := by omega
                  have hkz2 : (k : Int) < (k : Int) + 1 := by omega
                  have hkd : decide (((k : Int) + 1) ≤ (k : Int)) = false := decide_eq_false (by omega)
                  have htl := turn_len l i k (by omega)
                  have hIt : IntsAt wr (some ⟨g3, 0, none⟩) (ints (turn l i k)) := ints_row hrj (fun x hx => by
                    rw [ints_len, htl] at hx
                    refine ⟨by omega, ?_⟩
                    rw [if_pos (by omega), ints_getD _ _ (by rw [htl]; exact hx), turn_get l i k x (by omega) (by omega)]
                    unfold turnF natsV
                    by_cases hq : i ≤ x ∧ x ≤ k
                    · rw [if_pos (by omega), if_pos hq]
                    · rw [if_neg (by omega), if_neg hq])
                  have hsw := since_join hs hsj
                  have c1 := Long_ok (cap := cap) (cap2 := c3) (h.since (since_join hs13 hsw)) t hIt (IsPerm_turn hpl (show i ≤ k + 1 by omega)).lt (by rw [htl]; omega)
                  rw [htl, hln] at c1
                  have C1 := Lib.hid c1
                  have hge : ¬ longOf (dOf m) (turn l i k) < vb := by
                    rw [Hvb.out, turn_longOf (dOf m) Hsym.out l i k hi1 hik (by omega)]
                    have := Hno.out i k hi1 hik hk
                    unfold NoImp at this
                    omega
                  have hge' : decide (longOf (dOf m) (turn l i k) < vb) = false := by simpa using hge
                  clear c1 hge
                  go_wp2_with fail
                  refine C1.out.mono ?_
                  rintro e w9 ⟨hs9, rfl⟩
                  go_wp2
                  go_roundg (m.length - (k + 1))
                  case measure => go_light; omega
                  case rel =>
                    go_light
                    exact ⟨k + 1, by omega, by omega, rfl, by go_num, since_join hsw hs9⟩
            · obtain rfl : m.length = k := by omega
              go_wp2
              go_roundg (m.length + 1 - (i + 1))
              case measure => go_light; omega
              case rel =>
                go_light
                exact ⟨i + 1, by omega, by omega, rfl, by go_num, hs⟩
        · have hiz : (m.length : Int) ≤ (i : Int) := by omega
          go_wp2
          go_ret
          exact ⟨rfl, since_join hs13 hs⟩
end Go.Proofs.Ytlopcegpolpndaa
