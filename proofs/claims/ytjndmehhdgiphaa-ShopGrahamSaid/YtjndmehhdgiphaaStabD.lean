/- slices' symMerge by a function, the whole. (From the template XStabD.) -/
import Derived.Test.YtjndmehhdgiphaaStabC
namespace Go.Proofs.Ytjndmehhdgiphaa
open Go.RowKit StabM

structure Bis (a m b mid lo hi : Nat) : Prop where
  two : mid ≤ mid ∧ 2 * mid ≤ a + b ∧ a + b ≤ 2 * mid + 1
  lob : a ≤ lo ∧ lo ≤ hi
  hib : hi ≤ m ∧ hi ≤ mid
  up : mid + m - lo ≤ b
  down : m ≤ mid + m - hi ∧ mid ≤ mid + m - hi
  loE : lo = a ∨ mid + m - lo = b
  hiE : hi = m ∨ mid + m - hi = m
theorem bis_of {a m b mid : Nat} (ham : a < m) (hmb : m < b) (h1 : 2 * mid ≤ a + b) (h2 : a + b ≤ 2 * mid + 1) : Bis a m b mid (if mid < m then mid + m - b else a) (if mid < m then mid else m) := by
  by_cases h : mid < m
  · rw [if_pos h, if_pos h]
    exact ⟨⟨Nat.le_refl _, h1, h2⟩, by omega, by omega, by omega, by omega, by omega, by omega⟩
  · rw [if_neg h, if_neg h]
    exact ⟨⟨Nat.le_refl _, h1, h2⟩, by omega, by omega, by omega, by omega, by omega, by omega⟩
theorem bis_cut {le : Nat → Nat → Prop} {f : Nat → Nat} {a m b mid lo hi s : Nat} (H : Bis a m b mid lo hi) (h1 : lo ≤ s) (h2 : s ≤ hi) (u : s = lo ∨ le (f (s - 1)) (f (mid + m - s))) (d : s = hi ∨ le (f (mid + m - 1 - s)) (f s)) : CutAt le f a m b s (mid + m - s) := by
  obtain ⟨t1, t2, t3⟩ := H.two
  obtain ⟨l1, l2⟩ := H.lob
  obtain ⟨i1, i2⟩ := H.hib
  have h3 := H.up
  obtain ⟨d1, d2⟩ := H.down
  have h4 := H.loE
  have h5 := H.hiE
  refine ⟨by omega, fun h6 h7 => ?_, fun h6 h7 => ?_⟩
  · rcases u with u | u
    · subst u; omega
    · exact u
  · rcases d with d | d
    · subst d; omega
    · rw [show mid + m - s - 1 = mid + m - 1 - s by omega]; exact d
set_option maxHeartbeats 8000000 in
set_option maxRecDepth 100000 in
theorem symMain (B N n cap a m b M : Nat) (f : Nat → Nat) (gf : FuncId) (lb : Array Value) (cf : Nat → Nat → Int) (w : World) (eg : ∀ args w, (callFunc gf args).run Try.prog w = .ok (.enter gf args) w)
    (ih : ∀ (a' m' b' : Nat) (f' : Nat → Nat) (w' : World), b' - a' < b - a → CmpOk gf lb cf M B w' → (∀ i, i < n → f' i < M) → w'.rowIs B 3 N (natF f') → b' ≤ n → a' < m' → m' < b' → SortedOn (leC cf) f' a' m' → SortedOn (leC cf) f' m' b' →
      Calls Try.prog 35 #[.slice (some ⟨B, 0, none⟩) n cap, .int .i64 (a' : Nat), .int .i64 (m' : Nat), .int .i64 (b' : Nat), .func (.func gf) #[] lb] w' (RowPost B N (SortPost cf n a' b' f') w'))
    (hC : CmpOk gf lb cf M B w) (hP : Pre M (leC cf)) (hM : ∀ i, i < n → f i < M) (hn : n ≤ 1000) (hN : n ≤ N) (hr : w.rowIs B 3 N (natF f)) (hb : b ≤ n) (ha : a + 1 < m) (hmb : m + 1 < b) (hs1 : SortedOn (leC cf) f a m) (hs2 : SortedOn (leC cf) f m b) :
    Calls Try.prog 35 #[.slice (some ⟨B, 0, none⟩) n cap, .int .i64 (a : Nat), .int .i64 (m : Nat), .int .i64 (b : Nat), .func (.func gf) #[] lb] w (RowPost B N (SortPost cf n a b f) w) := by
  have IH := Lib.hid ih
  have HC := Lib.hid hC
  have HP := Lib.hid hP
  have HM := Lib.hid hM
  have HS1 := Lib.hid hs1
  have HS2 := Lib.hid hs2
  have e1 : (((m : Int) - (a : Int)) == 1) = false := by simp; omega
  have e2 : (((b : Int) - (m : Int)) == 1) = false := by simp; omega
  obtain ⟨mid, hmid⟩ : ∃ mid, mid = (a + b) / 2 := ⟨_, rfl⟩
  have hmz : ((a : Int) + (b : Int)) / 2 = (mid : Int) := by omega
  have m1 : 2 * mid ≤ a + b := by omega
  have m2 : a + b ≤ 2 * mid + 1 := by omega
  have Hmz := Lib.hid hmz
  have hbis := bis_of (a := a) (m := m) (b := b) (by omega) (by omega) m1 m2
  obtain ⟨lo, hlo⟩ : ∃ z, z = (if mid < m then mid + m - b else a) := ⟨_, rfl⟩
  obtain ⟨hi, hhi⟩ : ∃ z, z = (if mid < m then mid else m) := ⟨_, rfl⟩
  rw [← hlo, ← hhi] at hbis
  have HB := Lib.hid hbis
  have Hlo := Lib.hid hlo
  have Hhi := Lib.hid hhi
  clear ih hC hP hM hs1 hs2 hmz hmid hlo hhi hbis
  go_enter Try.func35, Try.ntmps35
  go_upto_region 25 with fail
  rw [Hmz.out]
  go_upto_if 140 with fail
  go_cut [20, 21] (fun v u wx => v = .int .i64 (lo : Nat) ∧ u = .int .i64 (hi : Nat) ∧ w = wx)
  case first => as_aux_lemma =>
    by_cases h : mid < m
    · have hz : (mid : Int) < (m : Int) := by omega
      have e3 : (mid : Int) + (m : Int) - (b : Int) = (lo : Int) := by rw [Hlo.out, if_pos h]; omega
      have e4 : mid = hi := by rw [Hhi.out, if_pos h]
      have E3 := Lib.hid e3
      have E4 := Lib.hid e4
      clear e3 e4
      go_wp2
      go_meet
      case rel => exact ⟨by rw [E3.out], by rw [← E4.out], rfl⟩
    · have hz : (m : Int) ≤ (mid : Int) := by omega
      have e3 : a = lo := by rw [Hlo.out, if_neg h]
      have e4 : m = hi := by rw [Hhi.out, if_neg h]
      have E3 := Lib.hid e3
      have E4 := Lib.hid e4
      clear e3 e4
      go_wp2
      go_meet
      case rel => exact ⟨by rw [← E3.out], by rw [← E4.out], rfl⟩
  case rest =>
  obtain ⟨rfl, rfl, rfl⟩ := hcut
  obtain ⟨l1, l2⟩ := HB.out.lob
  obtain ⟨i1, i2⟩ := HB.out.hib
  have u1 := HB.out.up
  obtain ⟨d1, d2⟩ := HB.out.down
  go_wp2
  go_loopg [20, 21] (hi - lo) (fun g sv rv wr => ∃ s r : Nat, lo ≤ s ∧ s ≤ r ∧ r ≤ hi ∧ g = r - s ∧ sv = .int .i64 (s : Nat) ∧ rv = .int .i64 (r : Nat) ∧ OnlyB w wr B ∧ wr.rowIs B 3 N (natF f) ∧ Hid ((s = lo ∨ leC cf (f (s - 1)) (f (mid + m - s))) ∧ (r = hi ∨ leC cf (f (mid + m - 1 - r)) (f r))))
  case atStart => exact ⟨lo, hi, Nat.le_refl _, l2, Nat.le_refl _, rfl, rfl, rfl, OnlyB.refl _ _, hr, Lib.hid ⟨.inl rfl, .inl rfl⟩⟩
  case round =>
    obtain ⟨s, r, hs, hsr, hr', rfl, rfl, rfl, ho, hrow, hH⟩ := hrel
    by_cases hlt : s < r
    · have hltz : (s : Int) < (r : Int) := by omega
      obtain ⟨q, hq⟩ : ∃ q, q = (s + r) / 2 := ⟨_, rfl⟩
      have hqz : ((s : Int) + (r : Int)) / 2 = (q : Int) := by omega
      have q1 : s ≤ q := by omega
      have q2 : q < r := by omega
      have Hqz := Lib.hid hqz
      clear hqz hq
      obtain ⟨z, hz⟩ : ∃ z, z = mid + m - 1 - q := ⟨_, rfl⟩
      have z1 : z < b := by omega
      have hzz : (mid : Int) + (m : Int) - 1 - (q : Int) = (z : Int) := by omega
      have Hz := Lib.hid hz
      have Hzz := Lib.hid hzz
      clear hz hzz
      have c1 := hrow.cell (i := q) (by omega)
      have c2 := hrow.cell (i := z) (by omega)
      unfold natF at c1 c2
      obtain ⟨x, hx⟩ : ∃ x, x = f q := ⟨_, rfl⟩
      obtain ⟨y, hy⟩ : ∃ y, y = f z := ⟨_, rfl⟩
      have hxM : x < M := by rw [hx]; exact HM.out _ (by omega)
      have hyM : y < M := by rw [hy]; exact HM.out _ (by omega)
      rw [← hx] at c1
      rw [← hy] at c2
      have Hx := Lib.hid hx
      have Hy := Lib.hid hy
      have C := Lib.hid (HC.out wr.drew ho.drew y x hyM hxM)
      have htot := Lib.hid (HP.out.total x y hxM hyM)
      obtain ⟨v, hv⟩ : ∃ v, v = cf y x := ⟨_, rfl⟩
      rw [← hv] at C
      have Hv := Lib.hid hv
      have hz1 : (q : Int) < (n : Int) := by omega
      have hz2 : (z : Int) < (n : Int) := by omega
      clear hx hy hv hxM hyM
      go_upto_region 35 with fail
      rw [Hqz.out]
      have t3 : IntKind.i64.wrap ((mid : Int) + (m : Int) - 1 - (q : Int)) = (z : Int) := by rw [Hzz.out]; exact IntWalk.i64_in _ (by omega)
      refine wp_region_still_tail 11 (by kernel_rfl) (by kernel_rfl) ?_
      simp only [List.take_succ_cons, List.take_zero, List.drop_succ_cons, List.drop_zero]
      repeat still_step
      refine wpStill_nil ?_
      change wpList _ _ _ _ _ wr.drew
      go_wp2_with fail
      refine C.out.mono ?_
      rintro e w5 ⟨rfl, hs5⟩
      clear c1 c2 t3
      have ho5 : OnlyB w w5 B := ho.drew.call hs5
      have hrow5 : w5.rowIs B 3 N (natF f) := World.rowIs.of_block (w := wr.drew) hrow (hs5.block _ hrow.lt)
      by_cases hv0 : v < 0
      · have hle : leC cf (f z) (f q) := by
          rw [← Hx.out, ← Hy.out]
          rcases htot.out with h | h
          · exact absurd (Hv.out ▸ hv0) h
          · exact h
        rw [Hz.out] at hle
        have Hle := Lib.hid hle
        clear hle
        go_wp2
        go_roundg (q - s)
        case measure => go_light; omega
        case rel =>
          go_light
          exact ⟨s, q, by omega, by omega, by omega, rfl, rfl, rfl, ho5, hrow5, Lib.hid ⟨hH.out.1, .inr Hle.out⟩⟩
      · have hvd : decide (v < 0) = false := decide_eq_false hv0
        have hle : leC cf (f q) (f z) := by rw [← Hx.out, ← Hy.out]; unfold leC; rw [← Hv.out]; exact hv0
        rw [Hz.out] at hle
        have Hle := Lib.hid hle
        clear hle
        go_wp2
        go_roundg (r - (q + 1))
        case measure => go_light; omega
        case rel =>
          go_light
          exact ⟨q + 1, r, by omega, by omega, by omega, rfl, by go_num, rfl, ho5, hrow5, Lib.hid ⟨.inr (by rw [show q + 1 - 1 = q by omega, show mid + m - (q + 1) = mid + m - 1 - q by omega]; exact Hle.out), hH.out.2⟩⟩
    · obtain rfl : s = r := by omega
      obtain ⟨e, he⟩ : ∃ e, e = mid + m - s := ⟨_, rfl⟩
      have hcut := bis_cut HB.out hs hr' hH.out.1 hH.out.2
      rw [← he] at hcut
      have r1 : m ≤ e := by omega
      have r2 : e ≤ b := by omega
      have r3 : mid ≤ e := by omega
      have r4 : s + (e - m) = mid := by omega
      have r5 : s ≤ m := by omega
      have r6 : a ≤ s := by omega
      have r7 : s ≤ mid := by omega
      have hhal := hcut.halves HP.out (fun k hk => HM.out k (by omega)) HS1.out HS2.out
      rw [r4] at hhal
      have HH := Lib.hid hhal
      have HE : Hid ((mid : Int) + (m : Int) - (s : Int) = (e : Int)) := Lib.hid (by omega)
      clear he hcut hhal r4 hH
      go_upto_region 39 with fail
      rw [HE.out]
      obtain ⟨t1, ht1⟩ : ∃ t, t = decide (s < m ∧ m < e) := ⟨_, rfl⟩
      have Ht1 := Lib.hid ht1
      clear ht1
      go_cut [185] (fun v wx => v = .bool t1 ∧ wr = wx)
      case first => as_aux_lemma =>
        by_cases c1 : s < m
        · have c1z : (s : Int) < (m : Int) := by omega
          by_cases c2 : m < e
          · have c2z : (m : Int) < (e : Int) := by omega
            go_wp2
            go_meet
            case rel => exact ⟨by rw [Ht1.out, decide_eq_true ⟨c1, c2⟩], rfl⟩
          · have c2f : decide (m < e) = false := decide_eq_false c2
            go_wp2
            go_meet
            case rel => exact ⟨by rw [Ht1.out, decide_eq_false (fun h => c2 h.2)], rfl⟩
        · have c1f : decide (s < m) = false := decide_eq_false c1
          go_wp2
          go_meet
          case rel => exact ⟨by rw [Ht1.out, decide_eq_false (fun h => c1 h.1)], rfl⟩
      case rest =>
      obtain ⟨rfl, rfl⟩ := hcut
      go_upto_if 185 with fail
      go_cut [] (fun wx => ∃ g : Nat → Nat, OnlyB w wx B ∧ wx.rowIs B 3 N (natF g) ∧ Hid (PermOn a b f g ∧ Halves (leC cf) g a s mid e b))
      case first => as_aux_lemma =>
        have hperm : PermOn a b f (turned f s m e) := (turned_perm f r5 r1).wide r6 r2 (by omega)
        cases t1 with
        | true =>
          have h1 := of_decide_eq_true Ht1.out.symm
          have C := Lib.hid (rotate_any B N n cap s m e f (.func (.func gf) #[] lb) wr hn hN hrow h1.1 h1.2 (by omega))
          have Hp := Lib.hid hperm
          clear hperm h1
          go_wp2_with fail
          refine C.out.mono ?_
          rintro x w5 ⟨rfl, ho5, g2, hrow5, hg2⟩
          have e5 : turned f s m e = g2 := funext (fun k => (hg2 k).symm)
          have hfin : PermOn a b f g2 ∧ Halves (leC cf) g2 a s mid e b := by rw [← e5]; exact ⟨Hp.out, HH.out⟩
          have Hfin := Lib.hid hfin
          clear e5 hfin hg2
          go_wp2
          go_meet
          case rel => exact ⟨g2, ho.trans ho5, hrow5, Hfin⟩
        | false =>
          have h1 : ¬ (s < m ∧ m < e) := of_decide_eq_false Ht1.out.symm
          have e5 : ∀ k, turned f s m e k = f k := fun k => by
            unfold turned
            by_cases hk : s ≤ k ∧ k < e
            · rw [if_pos hk]
              by_cases hk2 : k < s + (e - m)
              · rw [if_pos hk2]; congr 1; omega
              · rw [if_neg hk2]; congr 1; omega
            · rw [if_neg hk]
          have Hfin : Hid (PermOn a b f f ∧ Halves (leC cf) f a s mid e b) := Lib.hid (by
            have h2 := HH.out
            rw [show turned f s m e = f from funext e5] at h2
            exact ⟨PermOn.refl _ _ _, h2⟩)
          clear e5 h1 hperm
          go_wp2
          go_meet
          case rel => exact ⟨f, ho, hrow, Hfin⟩
      case rest =>
      clear ho hrow HH
      obtain ⟨g, ho, hrow, HG⟩ := hcut
      rename World => wa
      obtain ⟨t2, ht2⟩ : ∃ t, t = decide (a < s ∧ s < mid) := ⟨_, rfl⟩
      have Ht2 := Lib.hid ht2
      clear ht2
      have hgM : ∀ k, k < n → g k < M := HG.out.1.lt hb HM.out
      have HGM := Lib.hid hgM
      clear hgM
      go_upto_region 41 with fail
      go_cut [199] (fun v wx => v = .bool t2 ∧ wa = wx)
      case first => as_aux_lemma =>
        by_cases c1 : a < s
        · have c1z : (a : Int) < (s : Int) := by omega
          by_cases c2 : s < mid
          · have c2z : (s : Int) < (mid : Int) := by omega
            go_wp2
            go_meet
            case rel => exact ⟨by rw [Ht2.out, decide_eq_true ⟨c1, c2⟩], rfl⟩
          · have c2f : decide (s < mid) = false := decide_eq_false c2
            go_wp2
            go_meet
            case rel => exact ⟨by rw [Ht2.out, decide_eq_false (fun h => c2 h.2)], rfl⟩
        · have c1f : decide (a < s) = false := decide_eq_false c1
          go_wp2
          go_meet
          case rel => exact ⟨by rw [Ht2.out, decide_eq_false (fun h => c1 h.1)], rfl⟩
      case rest =>
      obtain ⟨rfl, rfl⟩ := hcut
      go_upto_if 199 with fail
      go_cut [] (fun wx => ∃ g : Nat → Nat, OnlyB w wx B ∧ wx.rowIs B 3 N (natF g) ∧ Hid (PermOn a b f g ∧ Halves (leC cf) g a mid mid e b))
      case first => as_aux_lemma =>
        cases t2 with
        | true =>
          have h1 := of_decide_eq_true Ht2.out.symm
          have C := Lib.hid (IH.out a s mid g wa (by omega) (HC.out.on ho) HGM.out hrow (by omega) h1.1 h1.2 HG.out.2.s1 HG.out.2.s2)
          clear h1
          go_wp2_with fail
          refine C.out.mono ?_
          rintro x w5 ⟨rfl, ho5, g2, hrow5, hg2⟩
          have hfin : PermOn a b f g2 ∧ Halves (leC cf) g2 a mid mid e b := ⟨HG.out.1.trans (hg2.perm.wide (Nat.le_refl _) (by omega) (by omega)), HG.out.2.low hg2.perm hg2.sorted⟩
          have Hfin := Lib.hid hfin
          clear hfin hg2
          go_wp2
          go_meet
          case rel => exact ⟨g2, ho.trans ho5, hrow5, Hfin⟩
        | false =>
          have h1 : ¬ (a < s ∧ s < mid) := of_decide_eq_false Ht2.out.symm
          have hso : SortedOn (leC cf) g a mid := by
            by_cases c : a < s
            · exact HG.out.2.s1.sub (Nat.le_refl _) (by omega)
            · exact HG.out.2.s2.sub (by omega) (Nat.le_refl _)
          have hfin : PermOn a b f g ∧ Halves (leC cf) g a mid mid e b := ⟨HG.out.1, HG.out.2.low (PermOn.refl _ _ _) hso⟩
          have Hfin := Lib.hid hfin
          clear hfin hso h1
          go_wp2
          go_meet
          case rel => exact ⟨g, ho, hrow, Hfin⟩
      case rest =>
      clear ho hrow HG HGM
      obtain ⟨g2, ho, hrow, HG⟩ := hcut
      rename World => wb
      have hgM : ∀ k, k < n → g2 k < M := HG.out.1.lt hb HM.out
      have HGM := Lib.hid hgM
      clear hgM
      by_cases c3 : mid < e
      · have c3z : (mid : Int) < (e : Int) := by omega
        by_cases c4 : e < b
        · have c4z : (e : Int) < (b : Int) := by omega
          have C := Lib.hid (IH.out mid e b g2 wb (by omega) (HC.out.on ho) HGM.out hrow hb c3 c4 HG.out.2.s3 HG.out.2.s4)
          go_wp2_with fail
          refine C.out.mono ?_
          rintro x w5 ⟨rfl, ho5, g3, hrow5, hg3⟩
          have hH3 := HG.out.2.high hg3.perm hg3.sorted
          have hfin : SortPost cf n a b f g3 := ⟨HG.out.1.trans (hg3.perm.wide (by omega) (Nat.le_refl _) (by omega)), Halves.whole hH3.s1 hH3.s4 hH3.cross⟩
          have Hfin := Lib.hid hfin
          clear hfin hH3 hg3
          go_wp2
          go_end0
          exact ⟨rfl, ho.trans ho5, g3, hrow5, Hfin.out⟩
        · have c4f : decide (e < b) = false := decide_eq_false c4
          have hso : SortedOn (leC cf) g2 mid b := HG.out.2.s3.sub (Nat.le_refl _) (by omega)
          have hfin : SortPost cf n a b f g2 := ⟨HG.out.1, Halves.whole HG.out.2.s1 hso HG.out.2.cross⟩
          have Hfin := Lib.hid hfin
          clear hfin hso
          go_wp2
          go_end0
          exact ⟨rfl, ho, g2, hrow, Hfin.out⟩
      · have c3f : decide (mid < e) = false := decide_eq_false c3
        have hso : SortedOn (leC cf) g2 mid b := HG.out.2.s4.sub (by omega) (Nat.le_refl _)
        have hfin : SortPost cf n a b f g2 := ⟨HG.out.1, Halves.whole HG.out.2.s1 hso HG.out.2.cross⟩
        have Hfin := Lib.hid hfin
        clear hfin hso
        go_wp2
        go_end0
        exact ⟨rfl, ho, g2, hrow, Hfin.out⟩
theorem sym_any (B N n cap M : Nat) (gf : FuncId) (lb : Array Value) (cf : Nat → Nat → Int) (eg : ∀ args w, (callFunc gf args).run Try.prog w = .ok (.enter gf args) w) (hP : Pre M (leC cf)) (hn : n ≤ 1000) (hN : n ≤ N) :
    ∀ (L a m b : Nat) (f : Nat → Nat) (w : World), b - a ≤ L → CmpOk gf lb cf M B w → (∀ i, i < n → f i < M) → w.rowIs B 3 N (natF f) → b ≤ n → a < m → m < b → SortedOn (leC cf) f a m → SortedOn (leC cf) f m b →
      Calls Try.prog 35 #[.slice (some ⟨B, 0, none⟩) n cap, .int .i64 (a : Nat), .int .i64 (m : Nat), .int .i64 (b : Nat), .func (.func gf) #[] lb] w (RowPost B N (SortPost cf n a b f) w)
  | 0, a, m, b, f, w, hL, _, _, _, _, h1, h2, _, _ => by omega
  | L + 1, a, m, b, f, w, hL, hC, hM, hr, hb, h1, h2, hs1, hs2 => by
    by_cases e1 : m = a + 1
    · exact symLeft_any B N n cap a m b M f gf lb cf w eg hC hP hM hn hN hr hb e1 h2 hs2
    · by_cases e2 : b = m + 1
      · exact symRight_any B N n cap a m b M f gf lb cf w eg hC hP hM hn hN hr hb (by omega) e2 hs1
      · exact symMain B N n cap a m b M f gf lb cf w eg (fun a' m' b' f' w' hlt hC' hM' hr' hb' h1' h2' s1 s2 => sym_any B N n cap M gf lb cf eg hP hn hN L a' m' b' f' w' (by omega) hC' hM' hr' hb' h1' h2' s1 s2) hC hP hM hn hN hr hb (by omega) (by omega) hs1 hs2
end Go.Proofs.Ytjndmehhdgiphaa
