/- slices' insertion sort by a function, on a row of the call's own. (From the template XStabB.) -/
import Derived.Test.YtjndmehhdgiphaaStabA
namespace Go.Proofs.Ytjndmehhdgiphaa
open Go.RowKit StabM

/-- x does not stand behind y -/
def leC (cf : Nat → Nat → Int) (x y : Nat) : Prop := ¬ cf y x < 0
structure SortPost (cf : Nat → Nat → Int) (n a b : Nat) (f g : Nat → Nat) : Prop where
  perm : PermOn a b f g
  sorted : SortedOn (leC cf) g a b
set_option maxHeartbeats 4000000 in
theorem insertion_any (B N n cap a b M : Nat) (f : Nat → Nat) (gf : FuncId) (lb : Array Value) (cf : Nat → Nat → Int) (w : World) (eg : ∀ args w, (callFunc gf args).run Try.prog w = .ok (.enter gf args) w)
    (hC : CmpOk gf lb cf M B w) (hP : Pre M (leC cf)) (hM : ∀ i, i < n → f i < M) (hn : n ≤ 1000) (hN : n ≤ N) (hr : w.rowIs B 3 N (natF f)) (hb : b ≤ n) (ha : a ≤ n) :
    Calls Try.prog 34 #[.slice (some ⟨B, 0, none⟩) n cap, .int .i64 (a : Nat), .int .i64 (b : Nat), .func (.func gf) #[] lb] w (RowPost B N (SortPost cf n a b f) w) := by
  have HC := Lib.hid hC
  have HP := Lib.hid hP
  have HM := Lib.hid hM
  clear hC hP hM
  go_enter Try.func34, Try.ntmps34
  go_wp2
  go_loopg [8] (b - (a + 1)) (fun g iv wr => ∃ (i : Nat) (h : Nat → Nat), a + 1 ≤ i ∧ (i ≤ b ∨ i = a + 1) ∧ g = b - i ∧ iv = .int .i64 (i : Nat) ∧ OnlyB w wr B ∧ wr.rowIs B 3 N (natF h) ∧ Hid (PermOn a b f h ∧ SortedOn (leC cf) h a i))
  case atStart => exact ⟨a + 1, f, Nat.le_refl _, .inr rfl, rfl, by go_num, OnlyB.refl _ _, hr, Lib.hid ⟨PermOn.refl _ _ _, SortedOn.self f a⟩⟩
  case round =>
    obtain ⟨i, h, hi1, hi2, rfl, rfl, ho, hrow, hH⟩ := hrel
    by_cases hib : i < b
    · have hibz : (i : Int) < (b : Int) := by omega
      clear hi2
      go_wp2
      go_loopg [9] i (fun g jv wy => ∃ (j : Nat) (h2 : Nat → Nat), a ≤ j ∧ j ≤ i ∧ j = g ∧ jv = .int .i64 (j : Nat) ∧ OnlyB w wy B ∧ wy.rowIs B 3 N (natF h2) ∧ Hid (PermOn a b f h2 ∧ But (leC cf) h2 a i j))
      case atStart => exact ⟨i, h, by omega, Nat.le_refl _, rfl, rfl, ho, hrow, Lib.hid ⟨hH.out.1, But.start hH.out.2⟩⟩
      case round =>
        clear ho hrow hH
        obtain ⟨j, h2, hj1, hj2, rfl, rfl, ho, hrow, hH⟩ := hrel
        have hMM : ∀ k, k < n → h2 k < M := hH.out.1.lt hb HM.out
        have HMM := Lib.hid hMM
        clear hMM
        by_cases hja : a < j
        · obtain ⟨q, rfl⟩ : ∃ q, j = q + 1 := ⟨j - 1, by omega⟩
          have hjaz : (a : Int) < (q : Int) + 1 := by omega
          have c1 := hrow.cell (i := q + 1) (by omega)
          have c2 := hrow.cell (i := q) (by omega)
          have f1 := hrow.frozen (q + 1)
          have f2 := hrow.frozen q
          have hz1 : (q : Int) + 1 < (n : Int) := by omega
          have hz2 : (q : Int) < (n : Int) := by omega
          unfold natF at c1 c2
          obtain ⟨x, hx⟩ : ∃ x, x = h2 (q + 1) := ⟨_, rfl⟩
          obtain ⟨y, hy⟩ : ∃ y, y = h2 q := ⟨_, rfl⟩
          have hxM : x < M := by rw [hx]; exact HMM.out _ (by omega)
          have hyM : y < M := by rw [hy]; exact HMM.out _ (by omega)
          rw [← hx] at c1
          rw [← hy] at c2
          have Hx := Lib.hid hx
          have Hy := Lib.hid hy
          have C := Lib.hid (HC.out wr.drew ho.drew x y hxM hyM)
          obtain ⟨v, hv⟩ : ∃ v, v = cf x y := ⟨_, rfl⟩
          rw [← hv] at C
          have Hv := Lib.hid hv
          clear hx hy hv hxM hyM
          have t1 : (0 : Int) ≤ (q : Int) + 1 := by omega
          have t2 : ((q : Int) + 1).toNat = q + 1 := by omega
          have t3 : IntKind.i64.wrap (q : Int) = (q : Int) := IntWalk.i64_in _ (by omega)
          go_wp2
          refine wp_region_still_tail 14 (by kernel_rfl) (by kernel_rfl) ?_
          simp only [List.take_succ_cons, List.take_zero, List.drop_succ_cons, List.drop_zero]
          repeat still_step
          refine wpStill_nil ?_
          change wpList _ _ _ _ _ wr.drew
          go_wp2_with fail
          refine C.out.mono ?_
          rintro e w5 ⟨rfl, hs5⟩
          clear t1 t2 t3 c1 c2 f1 f2
          have ho5 : OnlyB w w5 B := ho.drew.call hs5
          have hrow5 : w5.rowIs B 3 N (natF h2) := World.rowIs.of_block (w := wr.drew) hrow (hs5.block _ hrow.lt)
          have c1 := hrow5.cell (i := q + 1) (by omega)
          have c2 := hrow5.cell (i := q) (by omega)
          have f1 := hrow5.frozen (q + 1)
          have f2 := hrow5.frozen q
          have hsw := rowIs_nat (swp_row hrow5 (q + 1) q) (fun k _ => swp_comm h2 (q + 1) q k)
          unfold natF at c1 c2
          rw [← Hx.out] at c1
          rw [← Hy.out] at c2
          rw [← Hx.out, ← Hy.out] at hsw
          have Hsw := Lib.hid hsw
          have Hrow5 := Lib.hid hrow5
          clear hsw hrow hrow5
          by_cases hv0 : v < 0
          · have ho6 := (ho5.setCell (q + 1) (.int .i64 (y : Nat))).setCell q (.int .i64 (x : Nat))
            have Ho6 := Lib.hid ho6
            clear ho6
            go_wp2
            go_region
            go_wp2
            go_roundg q
            case measure => go_light; omega
            case rel =>
              go_light
              have hsp := swp_perm h2 (a := a) (b := b) (i := q) (j := q + 1) (by omega) (by omega) (by omega)
              have hle : leC cf (h2 (q + 1)) (h2 q) := by
                rw [← Hx.out, ← Hy.out]
                have hxM : x < M := by rw [Hx.out]; exact HMM.out _ (by omega)
                have hyM : y < M := by rw [Hy.out]; exact HMM.out _ (by omega)
                rcases HP.out.total x y hxM hyM with h | h
                · exact h
                · exact absurd (Hv.out ▸ hv0) h
              have := hH.out.2.step HP.out (by omega) (by omega) hle
              exact ⟨q, swp h2 q (q + 1), by omega, by omega, rfl, rfl, Ho6.out.drew, Hsw.out.drew, Lib.hid ⟨hH.out.1.trans hsp, this⟩⟩
          · have hv1 : 0 ≤ v := by omega
            have hle : leC cf (h2 q) (h2 (q + 1)) := by rw [← Hx.out, ← Hy.out]; unfold leC; rw [← Hv.out]; exact hv0
            have hsorted := hH.out.2.done HP.out (fun k h1 h2 => HMM.out k (by omega)) (by omega) (by omega) (.inr hle)
            have Hso := Lib.hid hsorted
            clear hsorted hle hv0
            go_wp2
            go_roundg (b - (i + 1))
            case measure => go_light; omega
            case rel =>
              go_light
              exact ⟨i + 1, h2, by omega, by omega, rfl, by go_num, ho5, Hrow5.out, Lib.hid ⟨hH.out.1, Hso.out⟩⟩
        · have hjaf : decide (a < j) = false := decide_eq_false hja
          obtain rfl : j = a := by omega
          have hsorted := hH.out.2.done HP.out (fun k h1 h2 => HMM.out k (by omega)) (by omega) (by omega) (.inl rfl)
          have Hso := Lib.hid hsorted
          clear hsorted
          go_wp2
          go_quiet (fail)
          go_wp2
          go_roundg (b - (i + 1))
          case measure => go_light; omega
          case rel =>
            go_light
            exact ⟨i + 1, h2, by omega, by omega, rfl, by go_num, ho.drewN _, hrow, Lib.hid ⟨hH.out.1, Hso.out⟩⟩
    · have hibz : (b : Int) ≤ (i : Int) := by omega
      go_wp2
      go_end0
      exact ⟨rfl, ho, h, hrow, hH.out.1, hH.out.2.sub (Nat.le_refl _) (by omega)⟩
end Go.Proofs.Ytjndmehhdgiphaa
