/- slices' symMerge by a function, on a row of the call's own. (From the template XStabC.) -/
import Derived.Test.YtjndmehhdgiphaaStabB
namespace Go.Proofs.Ytjndmehhdgiphaa
open Go.RowKit StabM

set_option maxHeartbeats 4000000 in
set_option maxRecDepth 100000 in
theorem symLeft_any (B N n cap a m b M : Nat) (f : Nat → Nat) (gf : FuncId) (lb : Array Value) (cf : Nat → Nat → Int) (w : World) (eg : ∀ args w, (callFunc gf args).run Try.prog w = .ok (.enter gf args) w)
    (hC : CmpOk gf lb cf M B w) (hP : Pre M (leC cf)) (hM : ∀ i, i < n → f i < M) (hn : n ≤ 1000) (hN : n ≤ N) (hr : w.rowIs B 3 N (natF f)) (hb : b ≤ n) (hma : m = a + 1) (ha : m < b) (hs : SortedOn (leC cf) f m b) :
    Calls Try.prog 35 #[.slice (some ⟨B, 0, none⟩) n cap, .int .i64 (a : Nat), .int .i64 (m : Nat), .int .i64 (b : Nat), .func (.func gf) #[] lb] w (RowPost B N (SortPost cf n a b f) w) := by
  have HC := Lib.hid hC
  have HP := Lib.hid hP
  have HM := Lib.hid hM
  have HS := Lib.hid hs
  have e1 : (((m : Int) - (a : Int)) == 1) = true := by simp; omega
  have g1 : m ≤ a + 1 := by omega
  have g2 : a + 1 ≤ m := by omega
  have HMA := Lib.hid hma
  clear hC hP hM hs hma
  go_enter Try.func35, Try.ntmps35
  go_wp2
  go_loopg [10, 11] (b - m) (fun g iv jv wr => ∃ i j : Nat, m ≤ i ∧ i ≤ j ∧ j ≤ b ∧ g = j - i ∧ iv = .int .i64 (i : Nat) ∧ jv = .int .i64 (j : Nat) ∧ OnlyB w wr B ∧ wr.rowIs B 3 N (natF f) ∧ Hid ((i = m ∨ leC cf (f (i - 1)) (f a)) ∧ (j = b ∨ leC cf (f a) (f j))))
  case atStart => exact ⟨m, b, Nat.le_refl _, by omega, Nat.le_refl _, rfl, rfl, rfl, OnlyB.refl _ _, hr, Lib.hid ⟨.inl rfl, .inl rfl⟩⟩
  case round =>
    obtain ⟨i, j, hi, hij, hj, rfl, rfl, rfl, ho, hrow, hH⟩ := hrel
    by_cases hlt : i < j
    · have hltz : (i : Int) < (j : Int) := by omega
      obtain ⟨q, hq⟩ : ∃ q, q = (i + j) / 2 := ⟨_, rfl⟩
      have hqz : ((i : Int) + (j : Int)) / 2 = (q : Int) := by omega
      have q1 : i ≤ q := by omega
      have q2 : q < j := by omega
      have Hqz := Lib.hid hqz
      clear hqz hq
      have c1 := hrow.cell (i := q) (by omega)
      have c2 := hrow.cell (i := a) (by omega)
      unfold natF at c1 c2
      obtain ⟨x, hx⟩ : ∃ x, x = f q := ⟨_, rfl⟩
      obtain ⟨y, hy⟩ : ∃ y, y = f a := ⟨_, rfl⟩
      have hxM : x < M := by rw [hx]; exact HM.out _ (by omega)
      have hyM : y < M := by rw [hy]; exact HM.out _ (by omega)
      rw [← hx] at c1
      rw [← hy] at c2
      have Hx := Lib.hid hx
      have Hy := Lib.hid hy
      have C := Lib.hid (HC.out wr.drew ho.drew x y hxM hyM)
      have htot := Lib.hid (HP.out.total x y hxM hyM)
      obtain ⟨v, hv⟩ : ∃ v, v = cf x y := ⟨_, rfl⟩
      rw [← hv] at C
      have Hv := Lib.hid hv
      have hz1 : (q : Int) < (n : Int) := by omega
      have hz2 : (a : Int) < (n : Int) := by omega
      clear hx hy hv hxM hyM
      go_upto_region 5 with fail
      rw [Hqz.out]
      refine wp_region_still_tail 9 (by kernel_rfl) (by kernel_rfl) ?_
      simp only [List.take_succ_cons, List.take_zero, List.drop_succ_cons, List.drop_zero]
      repeat still_step
      refine wpStill_nil ?_
      change wpList _ _ _ _ _ wr.drew
      go_wp2_with fail
      refine C.out.mono ?_
      rintro e w5 ⟨rfl, hs5⟩
      clear c1 c2
      have ho5 : OnlyB w w5 B := ho.drew.call hs5
      have hrow5 : w5.rowIs B 3 N (natF f) := World.rowIs.of_block (w := wr.drew) hrow (hs5.block _ hrow.lt)
      by_cases hv0 : v < 0
      · have hle : leC cf (f q) (f a) := by
          rw [← Hx.out, ← Hy.out]
          rcases htot.out with h | h
          · exact h
          · exact absurd (Hv.out ▸ hv0) h
        have Hle := Lib.hid hle
        clear hle
        go_wp2
        go_roundg (j - (q + 1))
        case measure => go_light; omega
        case rel =>
          go_light
          exact ⟨q + 1, j, by omega, by omega, by omega, rfl, by go_num, rfl, ho5, hrow5, Lib.hid ⟨.inr Hle.out, hH.out.2⟩⟩
      · have hle : leC cf (f a) (f q) := by rw [← Hx.out, ← Hy.out]; unfold leC; rw [← Hv.out]; exact hv0
        have Hle := Lib.hid hle
        clear hle
        go_wp2
        go_roundg (q - i)
        case measure => go_light; omega
        case rel =>
          go_light
          exact ⟨i, q, by omega, by omega, by omega, rfl, rfl, rfl, ho5, hrow5, Lib.hid ⟨hH.out.1, .inr Hle.out⟩⟩
    · obtain rfl : i = j := by omega
      have Hso := Lib.hid (onTo_sorted HP.out (fun k hk => HM.out k (by omega)) (by rw [← HMA.out]; exact HS.out) (by omega) hj (by rw [← HMA.out]; exact hH.out.1) hH.out.2)
      go_wp2
      go_loopg [13] (i - 1 - a) (fun g kv wr => ∃ (k : Nat) (h : Nat → Nat), a ≤ k ∧ k ≤ i - 1 ∧ g = i - 1 - k ∧ kv = .int .i64 (k : Nat) ∧ OnlyB w wr B ∧ wr.rowIs B 3 N (natF h) ∧ Hid ((∀ x, h x = onTo f a k x) ∧ PermOn a b f h))
      case atStart => exact ⟨a, f, Nat.le_refl _, by omega, rfl, rfl, ho, hrow, Lib.hid ⟨fun x => (onTo_self f a x).symm, PermOn.refl _ _ _⟩⟩
      case round =>
        clear ho hrow
        obtain ⟨k, h, hk1, hk2, rfl, rfl, ho, hrow, hK⟩ := hrel
        by_cases hlt2 : k < i - 1
        · have hltz : (k : Int) < (i : Int) - 1 := by omega
          have c1 := hrow.cell (i := k) (by omega)
          have c2 := hrow.cell (i := k + 1) (by omega)
          have f1 := hrow.frozen k
          have f2 := hrow.frozen (k + 1)
          have hz1 : (k : Int) < (n : Int) := by omega
          have hz2 : (k : Int) + 1 < (n : Int) := by omega
          have hsw := swp_row hrow k (k + 1)
          unfold natF at c1 c2
          obtain ⟨x, hx⟩ : ∃ x, x = h k := ⟨_, rfl⟩
          obtain ⟨y, hy⟩ : ∃ y, y = h (k + 1) := ⟨_, rfl⟩
          rw [← hx] at c1
          rw [← hy] at c2
          rw [← hx, ← hy] at hsw
          have Hsw := Lib.hid hsw
          have ho6 := (ho.setCell k (.int .i64 (y : Nat))).setCell (k + 1) (.int .i64 (x : Nat))
          have Ho6 := Lib.hid ho6
          clear hx hy hsw hrow ho6
          go_wp2
          go_region
          go_wp2
          go_roundg (i - 1 - (k + 1))
          case measure => go_light; omega
          case rel =>
            go_light
            have e := hK.out.1
            exact ⟨k + 1, swp h k (k + 1), by omega, by omega, rfl, by go_num, Ho6.out.drew, Hsw.out.drew, Lib.hid ⟨fun x => by rw [show h = onTo f a k from funext e]; exact onTo_succ f hk1 x, hK.out.2.trans (swp_perm h (by omega) (by omega) (by omega))⟩⟩
        · obtain rfl : k = i - 1 := by omega
          have hltz : (i : Int) - 1 ≤ ((i - 1 : Nat) : Int) := by omega
          go_wp2
          go_end0
          refine ⟨rfl, ho, h, hrow, hK.out.2, ?_⟩
          rw [show h = onTo f a (i - 1) from funext hK.out.1]
          exact Hso.out
set_option maxHeartbeats 4000000 in
set_option maxRecDepth 100000 in
theorem symRight_any (B N n cap a m b M : Nat) (f : Nat → Nat) (gf : FuncId) (lb : Array Value) (cf : Nat → Nat → Int) (w : World) (eg : ∀ args w, (callFunc gf args).run Try.prog w = .ok (.enter gf args) w)
    (hC : CmpOk gf lb cf M B w) (hP : Pre M (leC cf)) (hM : ∀ i, i < n → f i < M) (hn : n ≤ 1000) (hN : n ≤ N) (hr : w.rowIs B 3 N (natF f)) (hb : b ≤ n) (ha : a + 1 < m) (hmb : b = m + 1) (hs : SortedOn (leC cf) f a m) :
    Calls Try.prog 35 #[.slice (some ⟨B, 0, none⟩) n cap, .int .i64 (a : Nat), .int .i64 (m : Nat), .int .i64 (b : Nat), .func (.func gf) #[] lb] w (RowPost B N (SortPost cf n a b f) w) := by
  have HC := Lib.hid hC
  have HP := Lib.hid hP
  have HM := Lib.hid hM
  have HS := Lib.hid hs
  have e1 : (((m : Int) - (a : Int)) == 1) = false := by simp; omega
  have e2 : (((b : Int) - (m : Int)) == 1) = true := by simp; omega
  have g1 : b ≤ m + 1 := by omega
  have g2 : m + 1 ≤ b := by omega
  have HMB := Lib.hid hmb
  clear hC hP hM hs hmb
  go_enter Try.func35, Try.ntmps35
  go_wp2
  go_loopg [14, 15] (m - a) (fun g iv jv wr => ∃ i j : Nat, a ≤ i ∧ i ≤ j ∧ j ≤ m ∧ g = j - i ∧ iv = .int .i64 (i : Nat) ∧ jv = .int .i64 (j : Nat) ∧ OnlyB w wr B ∧ wr.rowIs B 3 N (natF f) ∧ Hid ((i = a ∨ leC cf (f (i - 1)) (f m)) ∧ (j = m ∨ leC cf (f m) (f j))))
  case atStart => exact ⟨a, m, Nat.le_refl _, by omega, Nat.le_refl _, rfl, rfl, rfl, OnlyB.refl _ _, hr, Lib.hid ⟨.inl rfl, .inl rfl⟩⟩
  case round =>
    obtain ⟨i, j, hi, hij, hj, rfl, rfl, rfl, ho, hrow, hH⟩ := hrel
    by_cases hlt : i < j
    · have hltz : (i : Int) < (j : Int) := by omega
      obtain ⟨q, hq⟩ : ∃ q, q = (i + j) / 2 := ⟨_, rfl⟩
      have hqz : ((i : Int) + (j : Int)) / 2 = (q : Int) := by omega
      have q1 : i ≤ q := by omega
      have q2 : q < j := by omega
      have Hqz := Lib.hid hqz
      clear hqz hq
      have c1 := hrow.cell (i := q) (by omega)
      have c2 := hrow.cell (i := m) (by omega)
      unfold natF at c1 c2
      obtain ⟨x, hx⟩ : ∃ x, x = f q := ⟨_, rfl⟩
      obtain ⟨y, hy⟩ : ∃ y, y = f m := ⟨_, rfl⟩
      have hxM : x < M := by rw [hx]; exact HM.out _ (by omega)
      have hyM : y < M := by rw [hy]; exact HM.out _ (by omega)
      rw [← hx] at c1
      rw [← hy] at c2
      have Hx := Lib.hid hx
      have Hy := Lib.hid hy
      have C := Lib.hid (HC.out wr.drew ho.drew y x hyM hxM)
      have htot := Lib.hid (HP.out.total x y hxM hyM)
      obtain ⟨v, hv⟩ : ∃ v, v = cf y x := ⟨_, rfl⟩
      rw [← hv] at C
      have Hv := Lib.hid hv
      have hz1 : (q : Int) < (n : Int) := by omega
      have hz2 : (m : Int) < (n : Int) := by omega
      clear hx hy hv hxM hyM
      go_upto_region 17 with fail
      rw [Hqz.out]
      refine wp_region_still_tail 9 (by kernel_rfl) (by kernel_rfl) ?_
      simp only [List.take_succ_cons, List.take_zero, List.drop_succ_cons, List.drop_zero]
      repeat still_step
      refine wpStill_nil ?_
      change wpList _ _ _ _ _ wr.drew
      go_wp2_with fail
      refine C.out.mono ?_
      rintro e w5 ⟨rfl, hs5⟩
      clear c1 c2
      have ho5 : OnlyB w w5 B := ho.drew.call hs5
      have hrow5 : w5.rowIs B 3 N (natF f) := World.rowIs.of_block (w := wr.drew) hrow (hs5.block _ hrow.lt)
      by_cases hv0 : v < 0
      · have hle : leC cf (f m) (f q) := by
          rw [← Hx.out, ← Hy.out]
          rcases htot.out with h | h
          · exact absurd (Hv.out ▸ hv0) h
          · exact h
        have Hle := Lib.hid hle
        clear hle
        go_wp2
        go_roundg (q - i)
        case measure => go_light; omega
        case rel =>
          go_light
          exact ⟨i, q, by omega, by omega, by omega, rfl, rfl, rfl, ho5, hrow5, Lib.hid ⟨hH.out.1, .inr Hle.out⟩⟩
      · have hvd : decide (v < 0) = false := decide_eq_false hv0
        have hle : leC cf (f q) (f m) := by rw [← Hx.out, ← Hy.out]; unfold leC; rw [← Hv.out]; exact hv0
        have Hle := Lib.hid hle
        clear hle
        go_wp2
        go_roundg (j - (q + 1))
        case measure => go_light; omega
        case rel =>
          go_light
          exact ⟨q + 1, j, by omega, by omega, by omega, rfl, by go_num, rfl, ho5, hrow5, Lib.hid ⟨.inr Hle.out, hH.out.2⟩⟩
    · obtain rfl : i = j := by omega
      have Hso := Lib.hid (back_sorted HP.out (fun k hk => HM.out k (by omega)) HS.out hi hj hH.out.1 hH.out.2)
      go_wp2
      go_loopg [17] (m - i) (fun g kv wr => ∃ (k : Nat) (h : Nat → Nat), i ≤ k ∧ k ≤ m ∧ g = k - i ∧ kv = .int .i64 (k : Nat) ∧ OnlyB w wr B ∧ wr.rowIs B 3 N (natF h) ∧ Hid ((∀ x, h x = back f m k x) ∧ PermOn a b f h))
      case atStart => exact ⟨m, f, by omega, Nat.le_refl _, rfl, rfl, ho, hrow, Lib.hid ⟨fun x => (back_self f m x).symm, PermOn.refl _ _ _⟩⟩
      case round =>
        clear ho hrow
        obtain ⟨k, h, hk1, hk2, rfl, rfl, ho, hrow, hK⟩ := hrel
        by_cases hlt2 : i < k
        · obtain ⟨q, rfl⟩ : ∃ q, k = q + 1 := ⟨k - 1, by omega⟩
          have hltz : (i : Int) < (q : Int) + 1 := by omega
          have c1 := hrow.cell (i := q + 1) (by omega)
          have c2 := hrow.cell (i := q) (by omega)
          have f1 := hrow.frozen (q + 1)
          have f2 := hrow.frozen q
          have hz1 : (q : Int) < (n : Int) := by omega
          have hz2 : (q : Int) + 1 < (n : Int) := by omega
          have hsw := rowIs_nat (swp_row hrow (q + 1) q) (fun k _ => swp_comm h (q + 1) q k)
          unfold natF at c1 c2
          obtain ⟨x, hx⟩ : ∃ x, x = h (q + 1) := ⟨_, rfl⟩
          obtain ⟨y, hy⟩ : ∃ y, y = h q := ⟨_, rfl⟩
          rw [← hx] at c1
          rw [← hy] at c2
          rw [← hx, ← hy] at hsw
          have Hsw := Lib.hid hsw
          have ho6 := (ho.setCell (q + 1) (.int .i64 (y : Nat))).setCell q (.int .i64 (x : Nat))
          have Ho6 := Lib.hid ho6
          clear hx hy hsw hrow ho6
          go_wp2
          go_region
          go_wp2
          go_roundg (q - i)
          case measure => go_light; omega
          case rel =>
            go_light
            have e := hK.out.1
            exact ⟨q, swp h q (q + 1), by omega, by omega, rfl, rfl, Ho6.out.drew, Hsw.out.drew, Lib.hid ⟨fun x => by rw [show h = back f m (q + 1) from funext e]; exact back_pred f (by omega) x, hK.out.2.trans (swp_perm h (by omega) (by omega) (by omega))⟩⟩
        · obtain rfl : k = i := by omega
          go_wp2
          go_end0
          refine ⟨rfl, ho, h, hrow, hK.out.2, ?_⟩
          rw [show h = back f m k from funext hK.out.1, HMB.out]
          exact Hso.out
end Go.Proofs.Ytjndmehhdgiphaa
