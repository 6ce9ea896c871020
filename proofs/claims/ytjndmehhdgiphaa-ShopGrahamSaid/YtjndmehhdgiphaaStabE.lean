/- slices.SortStableFunc at []int, rows of at most 60. (From the template XStabE.) -/
import Derived.Test.YtjndmehhdgiphaaStabD
namespace Go.Proofs.Ytjndmehhdgiphaa
open Go.RowKit StabM

/-- sorted within blocks of s -/
def InBlocks (le : Nat → Nat → Prop) (s : Nat) (h : Nat → Nat) (n : Nat) : Prop := ∀ x y, x < y → y < n → x / s = y / s → le (h x) (h y)
/-- up to a within blocks of 2 s, from there on within blocks of s -/
def Mix (le : Nat → Nat → Prop) (s t : Nat) (h : Nat → Nat) (a n : Nat) : Prop := ∀ x y, x < y → y < n → (y < a ∧ x / t = y / t) ∨ (a ≤ x ∧ x / s = y / s) → le (h x) (h y)
theorem blocks_step {le : Nat → Nat → Prop} {h h' : Nat → Nat} {a : Nat} (H : InBlocks le 20 h a) (ha : a % 20 = 0) (p : PermOn a (a + 20) h h') (hs : SortedOn le h' a (a + 20)) : InBlocks le 20 h' (a + 20) := fun x y h1 h2 h3 => by
  by_cases c : a ≤ y
  · exact hs x y (by omega) h1 h2
  · rw [p.out x (by omega), p.out y (by omega)]; exact H x y h1 (by omega) h3
theorem blocks_last {le : Nat → Nat → Prop} {h h' : Nat → Nat} {a n : Nat} (H : InBlocks le 20 h a) (ha : a % 20 = 0) (p : PermOn a n h h') (hs : SortedOn le h' a n) : InBlocks le 20 h' n := fun x y h1 h2 h3 => by
  by_cases c : a ≤ y
  · exact hs x y (by omega) h1 h2
  · rw [p.out x (by omega), p.out y (by omega)]; exact H x y h1 (by omega) h3
theorem mix_start20 {le : Nat → Nat → Prop} {h : Nat → Nat} {n : Nat} (H : InBlocks le 20 h n) : Mix le 20 40 h 0 n := fun x y h1 h2 h3 => by
  rcases h3 with h3 | h3
  · omega
  · exact H x y h1 h2 h3.2
theorem mix_pieces20 {le : Nat → Nat → Prop} {h : Nat → Nat} {a n b : Nat} (H : Mix le 20 40 h a n) (ha : a % 40 = 0) (hb : b ≤ n) (hb2 : b ≤ a + 40) : SortedOn le h a (min (a + 20) n) ∧ SortedOn le h (a + 20) b :=
  ⟨fun x y h1 h2 h3 => H x y h2 (by omega) (.inr ⟨h1, by omega⟩), fun x y h1 h2 h3 => H x y h2 (by omega) (.inr ⟨by omega, by omega⟩)⟩
theorem mix_step20 {le : Nat → Nat → Prop} {h h' : Nat → Nat} {a n : Nat} (H : Mix le 20 40 h a n) (ha : a % 40 = 0) (p : PermOn a (a + 40) h h') (hs : SortedOn le h' a (a + 40)) : Mix le 20 40 h' (a + 40) n := fun x y h1 h2 h3 => by
  rcases h3 with ⟨h3, h4⟩ | ⟨h3, h4⟩
  · by_cases c : a ≤ y
    · exact hs x y (by omega) h1 h3
    · rw [p.out x (by omega), p.out y (by omega)]; exact H x y h1 h2 (.inl ⟨by omega, h4⟩)
  · rw [p.out x (by omega), p.out y (by omega)]; exact H x y h1 h2 (.inr ⟨by omega, h4⟩)
theorem mix_last20 {le : Nat → Nat → Prop} {h h' : Nat → Nat} {a n : Nat} (H : Mix le 20 40 h a n) (ha : a % 40 = 0) (hn : n < a + 40) (p : PermOn a n h h') (hs : SortedOn le h' a n) : InBlocks le 40 h' n := fun x y h1 h2 h3 => by
  by_cases c : a ≤ y
  · exact hs x y (by omega) h1 h2
  · rw [p.out x (by omega), p.out y (by omega)]; exact H x y h1 h2 (.inl ⟨by omega, h3⟩)
theorem mix_start40 {le : Nat → Nat → Prop} {h : Nat → Nat} {n : Nat} (H : InBlocks le 40 h n) : Mix le 40 80 h 0 n := fun x y h1 h2 h3 => by
  rcases h3 with h3 | h3
  · omega
  · exact H x y h1 h2 h3.2
theorem mix_pieces40 {le : Nat → Nat → Prop} {h : Nat → Nat} {a n b : Nat} (H : Mix le 40 80 h a n) (ha : a % 80 = 0) (hb : b ≤ n) (hb2 : b ≤ a + 80) : SortedOn le h a (min (a + 40) n) ∧ SortedOn le h (a + 40) b :=
  ⟨fun x y h1 h2 h3 => H x y h2 (by omega) (.inr ⟨h1, by omega⟩), fun x y h1 h2 h3 => H x y h2 (by omega) (.inr ⟨by omega, by omega⟩)⟩
theorem mix_step40 {le : Nat → Nat → Prop} {h h' : Nat → Nat} {a n : Nat} (H : Mix le 40 80 h a n) (ha : a % 80 = 0) (p : PermOn a (a + 80) h h') (hs : SortedOn le h' a (a + 80)) : Mix le 40 80 h' (a + 80) n := fun x y h1 h2 h3 => by
  rcases h3 with ⟨h3, h4⟩ | ⟨h3, h4⟩
  · by_cases c : a ≤ y
    · exact hs x y (by omega) h1 h3
    · rw [p.out x (by omega), p.out y (by omega)]; exact H x y h1 h2 (.inl ⟨by omega, h4⟩)
  · rw [p.out x (by omega), p.out y (by omega)]; exact H x y h1 h2 (.inr ⟨by omega, h4⟩)
theorem mix_last40 {le : Nat → Nat → Prop} {h h' : Nat → Nat} {a n : Nat} (H : Mix le 40 80 h a n) (ha : a % 80 = 0) (hn : n < a + 80) (p : PermOn a n h h') (hs : SortedOn le h' a n) : InBlocks le 80 h' n := fun x y h1 h2 h3 => by
  by_cases c : a ≤ y
  · exact hs x y (by omega) h1 h2
  · rw [p.out x (by omega), p.out y (by omega)]; exact H x y h1 h2 (.inl ⟨by omega, h3⟩)
theorem blocks_all {le : Nat → Nat → Prop} {s : Nat} {h : Nat → Nat} {n : Nat} (H : InBlocks le s h n) (hn : n ≤ s) : SortedOn le h 0 n := fun x y _ h2 h3 =>
  H x y h2 h3 (by rw [Nat.div_eq_of_lt (by omega), Nat.div_eq_of_lt (by omega)])
set_option maxHeartbeats 8000000 in
set_option maxRecDepth 100000 in
theorem stable_any (B N n cap M : Nat) (f : Nat → Nat) (gf : FuncId) (lb : Array Value) (cf : Nat → Nat → Int) (w : World) (eg : ∀ args w, (callFunc gf args).run Try.prog w = .ok (.enter gf args) w)
    (hC : CmpOk gf lb cf M B w) (hP : Pre M (leC cf)) (hM : ∀ i, i < n → f i < M) (hn : n ≤ 60) (hN : n ≤ N) (hr : w.rowIs B 3 N (natF f)) :
    Calls Try.prog 29 #[.slice (some ⟨B, 0, none⟩) n cap, .int .i64 (n : Nat), .func (.func gf) #[] lb] w (RowPost B N (SortPost cf n 0 n f) w) := by
  have HC := Lib.hid hC
  have HP := Lib.hid hP
  have HM := Lib.hid hM
  have INS := Lib.hid (fun a b h W hC' hM' hr' (hb : b ≤ n) (ha : a ≤ n) => insertion_any B N n cap a b M h gf lb cf W eg hC' hP hM' (by omega) hN hr' hb ha)
  have SYM := Lib.hid (fun a m b h W => sym_any B N n cap M gf lb cf eg hP (by omega) hN (b - a) a m b h W (Nat.le_refl _))
  clear hC hP hM
  go_enter Try.func29, Try.ntmps29
  go_wp2
  go_loopg [7, 8] n (fun g av bv wr => ∃ (k a b : Nat) (h : Nat → Nat), b = a + 20 ∧ a ≤ n ∧ a = 20 * k ∧ g = n - a ∧ av = .int .i64 (a : Nat) ∧ bv = .int .i64 (b : Nat) ∧ OnlyB w wr B ∧ wr.rowIs B 3 N (natF h) ∧ Hid (PermOn 0 n f h ∧ InBlocks (leC cf) 20 h a))
  case atStart => exact ⟨0, 0, 20, f, rfl, Nat.zero_le _, rfl, rfl, rfl, rfl, OnlyB.refl _ _, hr, Lib.hid ⟨PermOn.refl _ _ _, fun x y _ h2 _ => by omega⟩⟩
  case round =>
    obtain ⟨k, a, b, h, hba, han, hak, rfl, rfl, rfl, ho, hrow, hH⟩ := hrel
    have b1 : b ≤ a + 20 := by omega
    have b2 : a + 20 ≤ b := by omega
    have Hba := Lib.hid hba
    have Hak := Lib.hid hak
    clear hba hak
    have hMM : ∀ i, i < n → h i < M := hH.out.1.lt (Nat.le_refl _) HM.out
    have HMM := Lib.hid hMM
    clear hMM
    by_cases hbn : b ≤ n
    · have hbz : (b : Int) ≤ (n : Int) := by omega
      have C := Lib.hid (INS.out a b h wr (HC.out.on ho) HMM.out hrow hbn han)
      go_wp2_with fail
      refine C.out.mono ?_
      rintro x w5 ⟨rfl, ho5, h2, hrow5, hh2⟩
      have hfin : PermOn 0 n f h2 ∧ InBlocks (leC cf) 20 h2 b := by
        have h3 := hh2.perm
        have h4 := hh2.sorted
        rw [Hba.out] at h3 h4 ⊢
        exact ⟨hH.out.1.trans (h3.wide (Nat.zero_le _) (by omega) (by omega)), blocks_step hH.out.2 (by have := Hak.out; omega) h3 h4⟩
      have Hfin := Lib.hid hfin
      clear hfin hh2
      go_wp2
      go_roundg (n - b)
      case measure => go_light; omega
      case rel =>
        go_light
        exact ⟨k + 1, b, b + 20, h2, rfl, hbn, by have := Hak.out; omega, rfl, rfl, by go_num, ho.trans ho5, hrow5, Hfin⟩
    · have hbz : (n : Int) < (b : Int) := by omega
      have hbnf : decide (b ≤ n) = false := decide_eq_false hbn
      have C := Lib.hid (INS.out a n h wr (HC.out.on ho) HMM.out hrow (Nat.le_refl _) han)
      go_wp2_with fail
      refine C.out.mono ?_
      rintro x w5 ⟨rfl, ho5, h2, hrow5, hh2⟩
      have hfin : PermOn 0 n f h2 ∧ InBlocks (leC cf) 20 h2 n := ⟨hH.out.1.trans (hh2.perm.wide (Nat.zero_le _) (Nat.le_refl _) han), blocks_last hH.out.2 (by have := Hak.out; omega) hh2.perm hh2.sorted⟩
      have Hfin := Lib.hid hfin
      have ho6 := ho.trans ho5
      clear hfin hh2 hH ho hrow HMM ho5
      go_wp2
      go_loopg [6, 7, 8, 9] 80 (fun g sv _ _ _ wr => ∃ (s : Nat) (h : Nat → Nat), (s = 20 ∨ s = 40 ∨ s = 80) ∧ g = 100 - s ∧ sv = .int .i64 (s : Nat) ∧ OnlyB w wr B ∧ wr.rowIs B 3 N (natF h) ∧ Hid (PermOn 0 n f h ∧ InBlocks (leC cf) s h n))
      case atStart => exact ⟨20, h2, .inl rfl, rfl, rfl, ho6, hrow5, Hfin⟩
      case round =>
        clear ho6 hrow5 Hfin
        obtain ⟨s, h, hs, rfl, rfl, ho, hrow, hH⟩ := hrel
        by_cases hsn : s < n
        · rcases hs with rfl | rfl | rfl
          · have hsz : (20 : Int) < (n : Int) := by omega
            go_wp2
            go_loopg [7, 8] n (fun g av bv wr => ∃ (k a b : Nat) (h : Nat → Nat), b = a + 40 ∧ a ≤ n ∧ a = 40 * k ∧ g = n - a ∧ av = .int .i64 (a : Nat) ∧ bv = .int .i64 (b : Nat) ∧ OnlyB w wr B ∧ wr.rowIs B 3 N (natF h) ∧ Hid (PermOn 0 n f h ∧ Mix (leC cf) 20 40 h a n))
            case atStart => exact ⟨0, 0, 40, h, rfl, Nat.zero_le _, rfl, rfl, rfl, rfl, ho, hrow, Lib.hid ⟨hH.out.1, mix_start20 hH.out.2⟩⟩
            case round =>
              clear ho hrow hH
              obtain ⟨k, a, b, h, hba, han, hak, rfl, rfl, rfl, ho, hrow, hH⟩ := hrel
              have b1 : b ≤ a + 40 := by omega
              have b2 : a + 40 ≤ b := by omega
              have Hba := Lib.hid hba
              have Hak := Lib.hid hak
              clear hba hak
              have hMM : ∀ i, i < n → h i < M := hH.out.1.lt (Nat.le_refl _) HM.out
              have HMM := Lib.hid hMM
              clear hMM
              by_cases hbn : b ≤ n
              · have hbz : (b : Int) ≤ (n : Int) := by omega
                have hpc := mix_pieces20 (b := b) hH.out.2 (by have := Hak.out; omega) hbn b1
                rw [show min (a + 20) n = a + 20 by omega] at hpc
                have C := Lib.hid (SYM.out a (a + 20) b h wr (HC.out.on ho) HMM.out hrow hbn (by omega) (by omega) hpc.1 hpc.2)
                have em : (a : Int) + 20 = ((a + 20 : Nat) : Int) := by omega
                have Em := Lib.hid em
                clear hpc em
                go_wp2_with fail
                rw [Em.out]
                refine C.out.mono ?_
                rintro x w6 ⟨rfl, ho5, h2, hrow5, hh2⟩
                have hfin : PermOn 0 n f h2 ∧ Mix (leC cf) 20 40 h2 b n := by
                  have h3 := hh2.perm
                  have h4 := hh2.sorted
                  rw [Hba.out] at h3 h4 ⊢
                  exact ⟨hH.out.1.trans (h3.wide (Nat.zero_le _) (by omega) (by omega)), mix_step20 hH.out.2 (by have := Hak.out; omega) h3 h4⟩
                have Hfin := Lib.hid hfin
                clear hfin hh2
                go_wp2
                go_roundg (n - b)
                case measure => go_light; omega
                case rel =>
                  go_light
                  exact ⟨k + 1, b, b + 40, h2, rfl, hbn, by have := Hak.out; omega, rfl, rfl, by go_num, ho.trans ho5, hrow5, Hfin⟩
              · have hbz : (n : Int) < (b : Int) := by omega
                have hbnf : decide (b ≤ n) = false := decide_eq_false hbn
                by_cases hm : a + 20 < n
                · have hpc := mix_pieces20 (b := n) hH.out.2 (by have := Hak.out; omega) (Nat.le_refl _) (by omega)
                  rw [show min (a + 20) n = a + 20 by omega] at hpc
                  have C := Lib.hid (SYM.out a (a + 20) n h wr (HC.out.on ho) HMM.out hrow (Nat.le_refl _) (by omega) hm hpc.1 hpc.2)
                  have em : (a : Int) + 20 = ((a + 20 : Nat) : Int) := by omega
                  have Em := Lib.hid em
                  have hmz : (a : Int) + 20 < (n : Int) := by omega
                  clear hpc em
                  go_wp2_with fail
                  rw [Em.out]
                  refine C.out.mono ?_
                  rintro x w6 ⟨rfl, ho5, h2, hrow5, hh2⟩
                  have hfin : PermOn 0 n f h2 ∧ InBlocks (leC cf) 40 h2 n := ⟨hH.out.1.trans (hh2.perm.wide (Nat.zero_le _) (Nat.le_refl _) han), mix_last20 hH.out.2 (by have := Hak.out; omega) (by omega) hh2.perm hh2.sorted⟩
                  have Hfin := Lib.hid hfin
                  clear hfin hh2
                  go_wp2
                  go_roundg (100 - 40)
                  case measure => go_light; omega
                  case rel =>
                    go_light
                    exact ⟨40, h2, by omega, rfl, rfl, ho.trans ho5, hrow5, Hfin⟩
                · have hpc := mix_pieces20 (b := n) hH.out.2 (by have := Hak.out; omega) (Nat.le_refl _) (by omega)
                  rw [show min (a + 20) n = n by omega] at hpc
                  have hfin : PermOn 0 n f h ∧ InBlocks (leC cf) 40 h n := ⟨hH.out.1, mix_last20 hH.out.2 (by have := Hak.out; omega) (by omega) (PermOn.refl _ _ _) hpc.1⟩
                  have Hfin := Lib.hid hfin
                  have hmz : (n : Int) ≤ (a : Int) + 20 := by omega
                  have hmf : decide ((a : Int) + 20 < (n : Int)) = false := decide_eq_false (by omega)
                  clear hpc hfin
                  go_wp2
                  go_roundg (100 - 40)
                  case measure => go_light; omega
                  case rel =>
                    go_light
                    exact ⟨40, h, by omega, rfl, rfl, ho, hrow, Hfin⟩
          · have hsz : (40 : Int) < (n : Int) := by omega
            go_wp2
            go_loopg [7, 8] n (fun g av bv wr => ∃ (k a b : Nat) (h : Nat → Nat), b = a + 80 ∧ a ≤ n ∧ a = 80 * k ∧ g = n - a ∧ av = .int .i64 (a : Nat) ∧ bv = .int .i64 (b : Nat) ∧ OnlyB w wr B ∧ wr.rowIs B 3 N (natF h) ∧ Hid (PermOn 0 n f h ∧ Mix (leC cf) 40 80 h a n))
            case atStart => exact ⟨0, 0, 80, h, rfl, Nat.zero_le _, rfl, rfl, rfl, rfl, ho, hrow, Lib.hid ⟨hH.out.1, mix_start40 hH.out.2⟩⟩
            case round =>
              clear ho hrow hH
              obtain ⟨k, a, b, h, hba, han, hak, rfl, rfl, rfl, ho, hrow, hH⟩ := hrel
              have b1 : b ≤ a + 80 := by omega
              have b2 : a + 80 ≤ b := by omega
              have Hba := Lib.hid hba
              have Hak := Lib.hid hak
              clear hba hak
              have hMM : ∀ i, i < n → h i < M := hH.out.1.lt (Nat.le_refl _) HM.out
              have HMM := Lib.hid hMM
              clear hMM
              by_cases hbn : b ≤ n
              · have hbz : (b : Int) ≤ (n : Int) := by omega
                have hpc := mix_pieces40 (b := b) hH.out.2 (by have := Hak.out; omega) hbn b1
                rw [show min (a + 40) n = a + 40 by omega] at hpc
                have C := Lib.hid (SYM.out a (a + 40) b h wr (HC.out.on ho) HMM.out hrow hbn (by omega) (by omega) hpc.1 hpc.2)
                have em : (a : Int) + 40 = ((a + 40 : Nat) : Int) := by omega
                have Em := Lib.hid em
                clear hpc em
                go_wp2_with fail
                rw [Em.out]
                refine C.out.mono ?_
                rintro x w6 ⟨rfl, ho5, h2, hrow5, hh2⟩
                have hfin : PermOn 0 n f h2 ∧ Mix (leC cf) 40 80 h2 b n := by
                  have h3 := hh2.perm
                  have h4 := hh2.sorted
                  rw [Hba.out] at h3 h4 ⊢
                  exact ⟨hH.out.1.trans (h3.wide (Nat.zero_le _) (by omega) (by omega)), mix_step40 hH.out.2 (by have := Hak.out; omega) h3 h4⟩
                have Hfin := Lib.hid hfin
                clear hfin hh2
                go_wp2
                go_roundg (n - b)
                case measure => go_light; omega
                case rel =>
                  go_light
                  exact ⟨k + 1, b, b + 80, h2, rfl, hbn, by have := Hak.out; omega, rfl, rfl, by go_num, ho.trans ho5, hrow5, Hfin⟩
              · have hbz : (n : Int) < (b : Int) := by omega
                have hbnf : decide (b ≤ n) = false := decide_eq_false hbn
                by_cases hm : a + 40 < n
                · have hpc := mix_pieces40 (b := n) hH.out.2 (by have := Hak.out; omega) (Nat.le_refl _) (by omega)
                  rw [show min (a + 40) n = a + 40 by omega] at hpc
                  have C := Lib.hid (SYM.out a (a + 40) n h wr (HC.out.on ho) HMM.out hrow (Nat.le_refl _) (by omega) hm hpc.1 hpc.2)
                  have em : (a : Int) + 40 = ((a + 40 : Nat) : Int) := by omega
                  have Em := Lib.hid em
                  have hmz : (a : Int) + 40 < (n : Int) := by omega
                  clear hpc em
                  go_wp2_with fail
                  rw [Em.out]
                  refine C.out.mono ?_
                  rintro x w6 ⟨rfl, ho5, h2, hrow5, hh2⟩
                  have hfin : PermOn 0 n f h2 ∧ InBlocks (leC cf) 80 h2 n := ⟨hH.out.1.trans (hh2.perm.wide (Nat.zero_le _) (Nat.le_refl _) han), mix_last40 hH.out.2 (by have := Hak.out; omega) (by omega) hh2.perm hh2.sorted⟩
                  have Hfin := Lib.hid hfin
                  clear hfin hh2
                  go_wp2
                  go_roundg (100 - 80)
                  case measure => go_light; omega
                  case rel =>
                    go_light
                    exact ⟨80, h2, by omega, rfl, rfl, ho.trans ho5, hrow5, Hfin⟩
                · have hpc := mix_pieces40 (b := n) hH.out.2 (by have := Hak.out; omega) (Nat.le_refl _) (by omega)
                  rw [show min (a + 40) n = n by omega] at hpc
                  have hfin : PermOn 0 n f h ∧ InBlocks (leC cf) 80 h n := ⟨hH.out.1, mix_last40 hH.out.2 (by have := Hak.out; omega) (by omega) (PermOn.refl _ _ _) hpc.1⟩
                  have Hfin := Lib.hid hfin
                  have hmz : (n : Int) ≤ (a : Int) + 40 := by omega
                  have hmf : decide ((a : Int) + 40 < (n : Int)) = false := decide_eq_false (by omega)
                  clear hpc hfin
                  go_wp2
                  go_roundg (100 - 80)
                  case measure => go_light; omega
                  case rel =>
                    go_light
                    exact ⟨80, h, by omega, rfl, rfl, ho, hrow, Hfin⟩
          · omega
        · have hsz : (n : Int) ≤ (s : Int) := by omega
          have hso := Lib.hid (blocks_all hH.out.2 (by omega))
          go_wp2
          go_end0
          exact ⟨rfl, ho, h, hrow, hH.out.1, hso.out⟩
set_option maxHeartbeats 1000000 in
/-- slices.SortStableFunc: the row holds the same things, sorted -/
theorem SortStableFunc_any (B N n cap M : Nat) (f : Nat → Nat) (gf : FuncId) (lb : Array Value) (cf : Nat → Nat → Int) (w : World) (eg : ∀ args w, (callFunc gf args).run Try.prog w = .ok (.enter gf args) w)
    (hC : CmpOk gf lb cf M B w) (hP : Pre M (leC cf)) (hM : ∀ i, i < n → f i < M) (hn : n ≤ 60) (hN : n ≤ N) (hr : w.rowIs B 3 N (natF f)) :
    Calls Try.prog 17 #[.slice (some ⟨B, 0, none⟩) n cap, .func (.func gf) #[] lb] w (RowPost B N (SortPost cf n 0 n f) w) := by
  have C := Lib.hid (stable_any B N n cap M f gf lb cf w eg hC hP hM hn hN hr)
  clear hC hP hM hr
  go_enter Try.func17, Try.ntmps17
  go_wp2_with fail
  refine C.out.mono ?_
  rintro x w5 ⟨rfl, ho5, h2, hrow5, hh2⟩
  go_wp2
  go_end0
  exact ⟨rfl, ho5, h2, hrow5, hh2⟩
end Go.Proofs.Ytjndmehhdgiphaa
