/- depot: journal, pick, stored. -/
import Derived.Test.YtgahgdgpncnffaaDoorD7
namespace Go.Proofs.YtgahgdgpncnffaaDoor
open Go.RowKit Go.Lib DepM Go.Sort

def pickF (a n : Int) : Int := (a % 18446744073709551616) % n
theorem pickF_bd (a n : Int) (hn : 1 ≤ n) : 0 ≤ pickF a n ∧ pickF a n < n := ⟨Int.emod_nonneg _ (by omega), Int.emod_lt_of_pos _ (by omega)⟩
theorem pick_val (a n : Int) (hn : 1 ≤ n) (hn2 : n ≤ 4611686018427387903) : wrap64 ((IntKind.u64.wrap a).tmod n) = pickF a n := by
  have e : IntKind.u64.wrap a = a % 18446744073709551616 := by simp [IntKind.wrap, IntKind.bits, IntKind.signed]
  have h0 : 0 ≤ a % 18446744073709551616 := Int.emod_nonneg _ (by omega)
  rw [e, Int.tmod_eq_emod_of_nonneg h0]
  have := pickF_bd a n hn
  unfold pickF at *
  unfold wrap64
  generalize a % 18446744073709551616 % n = r at *
  omega
set_option maxHeartbeats 400000 in
theorem pick_any (a n : Int) (w : World) (hn : 1 ≤ n) (hn2 : n ≤ 4611686018427387903) :
    Calls Tryd.prog 6 #[.int .i64 a, .int .i64 n] w fun e w' => e = .returned (.int .i64 (pickF a n)) ∧ w = w' := by
  have hp := Lib.hid (pick_val a n hn hn2)
  go_enter Tryd.func6, Tryd.ntmps6
  go_wp2
  go_ret
  exact ⟨by rw [hp.out]; rfl, rfl⟩

theorem Row.base {w : World} {B B' : Nat} {v : Value} {bs : Bs} (h : Row w B v bs) (hb : B' ≤ B) : Row w B' v bs := by
  refine ⟨h.1, ?_⟩
  rcases h.2 with hn | ⟨g, cap, cur, h1, h2, h3⟩
  · exact .inl hn
  · exact .inr ⟨g, cap, cur, h1, Nat.le_trans hb h2, h3⟩
/-- moves as they come in -/
def MvsAt (w : World) (A : Option Addr) (xs : List (ByteArray × Int)) : Prop :=
  ∀ k, k < xs.length → ∃ b off, A = some ⟨b, off, none⟩ ∧ b < w.heap.size ∧ ∀ (k : Nat) (x : ByteArray × Int), xs[k]? = some x →
    w.cell? ⟨b, off + k * 2, none⟩ = some (.string x.1) ∧ w.cell? ⟨b, off + k * 2 + 1, none⟩ = some (.int .i64 x.2)
set_option maxHeartbeats 4000000 in
set_option maxRecDepth 100000 in
theorem journal_any (A : Option Addr) (cap : Nat) (xs : List (ByteArray × Int)) (w : World) (he : Env w) (h : MvsAt w A xs) (hs : ∀ x ∈ xs, x.1.size ≤ maxLen) (hl : xs.length ≤ 50) :
    Calls Tryd.prog 5 #[.slice A xs.length cap] w fun e w' => w.Since w.heap.size w' ∧ ∃ acc bv, e = .returned (.tuple #[bv, .int .i64 (acc.length : Int)]) ∧ Valid acc ∧ acc.length ≤ 50 ∧ Row w' w.heap.size bv (J acc) := by
  obtain ⟨db, hdb⟩ : ∃ db, db = w.heap.size := ⟨_, rfl⟩
  have HS : Hid (w.Since w.heap.size (w.alloc (.cells #[.map none, .slice none 0 0, .int .i64 0] 37))) := Lib.hid ((World.Since.refl _ _).alloc (Nat.le_refl _) _)
  have HD := Lib.hid (DepMem.new' w (Nat.le_refl w.heap.size) hdb)
  have HE := Lib.hid he
  have HM := Lib.hid h
  have HZ := Lib.hid hs
  clear he h hs
  go_enter Tryd.func5, Tryd.ntmps5
  go_upto_region 2 with fail
  rw [← hdb]
  clear hdb
  generalize w.alloc (.cells #[.map none, .slice none 0 0, .int .i64 0] 37) = w1 at *
  go_wp2
  go_loopg [5] xs.length (fun gh iv wr => ∃ (k : Nat) (acc : List Mv) (mv jv : Value), k ≤ xs.length ∧ gh = xs.length - k ∧ iv = .int .i64 (k : Int) ∧ acc.length ≤ k ∧ Hid (w.Since w.heap.size wr ∧ DepMem wr w.heap.size db acc mv jv ∧ Valid acc))
  case atStart => exact ⟨0, [], _, _, Nat.zero_le _, rfl, rfl, Nat.le_refl _, Lib.hid ⟨HS.out, HD.out, Valid.nil⟩⟩
  case round =>
    clear HS HD
    generalize w1 = wx at *
    obtain ⟨k, acc, mv, jv, hk, rfl, rfl, hak, HI⟩ := hrel
    obtain ⟨h1, h2, h3⟩ := HI.out
    have hJ : (J acc).length ≤ 40 * acc.length := Jf_len h3.all (by omega)
    have HEr := Lib.hid (HE.out.since h1 HE.out.low)
    by_cases hkl : k < xs.length
    · have hkz : (k : Int) < (xs.length : Int) := by omega
      obtain ⟨b, off, rfl, hb, hc⟩ := HM.out k hkl
      obtain ⟨x, hx⟩ : ∃ x, xs[k]? = some x := ⟨xs[k], List.getElem?_eq_getElem hkl⟩
      obtain ⟨c0, c1⟩ := hc k x hx
      rw [← h1.cell (a := ⟨b, off + k * 2, none⟩) hb] at c0
      rw [← h1.cell (a := ⟨b, off + k * 2 + 1, none⟩) hb] at c1
      have h4 := hv_bd (a := acc) x.1.data.toList (fun m hm => (h3.all m hm).2)
      have CD := Lib.hid (Do_any h2 HEr.out HE.out.low (by omega) x.1 x.2 (HZ.out x (List.mem_of_getElem? hx)) (by omega) (by omega))
      clear h1 h2 h3 h4 hJ hc hx
      obtain ⟨t, v⟩ := x
      simp only at c0 c1 CD
      go_wp2_with fail
      refine CD.out.mono ?_
      rintro e w2 ⟨hs2, hres⟩
      have HI2 : Hid (∃ (acc : List Mv) (mv jv : Value), acc.length ≤ k + 1 ∧ w.Since w.heap.size w2 ∧ DepMem w2 w.heap.size db acc mv jv ∧ Valid acc) := Lib.hid (by
        rcases hres with ⟨h5, _, mv', jv', h6⟩ | ⟨_, _, _, h6⟩
        · exact ⟨_, _, _, by simp; omega, HI.out.1.trans hs2, h6, HI.out.2.2.snoc h5⟩
        · exact ⟨_, _, _, by omega, HI.out.1.trans hs2, h6, HI.out.2.2⟩)
      have hret : ∃ u, e = .returned u := by
        rcases hres with ⟨_, h5, _⟩ | ⟨_, _, h5, _⟩
        · exact ⟨_, h5⟩
        · exact ⟨_, h5⟩
      obtain ⟨u, rfl⟩ := hret
      clear hres hs2 CD HI
      go_wp2
      go_roundg (xs.length - (k + 1))
      case measure => go_light; omega
      case rel =>
        go_light
        obtain ⟨acc', mv', jv', h5, h6⟩ := HI2.out
        exact ⟨k + 1, acc', mv', jv', by omega, rfl, by go_num, h5, Lib.hid h6⟩
    · have hkz : ¬ (k : Int) < (xs.length : Int) := by omega
      have CJ := Lib.hid (Journal_any h2 (by omega))
      clear h1 h3
      go_wp2_with fail
      refine CJ.out.mono ?_
      rintro e w2 ⟨bv, rfl, hr, hs2⟩
      have CM := Lib.hid (Moves_any (h2.since hs2))
      have HR : Hid (Row w2 w.heap.size bv (J acc)) := Lib.hid (Row.base hr HI.out.1.size)
      have HS2 : Hid (w.Since w.heap.size w2) := Lib.hid (HI.out.1.trans (since_down hs2 HI.out.1.size))
      clear h2 hs2 hr
      go_wp2_with fail
      refine CM.out.mono ?_
      rintro e w3 ⟨rfl, rfl⟩
      go_wp2
      go_ret2
      exact ⟨HS2.out, acc, bv, rfl, HI.out.2.2, by omega, HR.out⟩

theorem itoa_ne (n : Int) : 1 ≤ (itoa n).length := by
  unfold itoa
  split
  · simp
  · have := decDigits_ne n.toNat
    rcases h : decDigits n.toNat with _ | ⟨a, l⟩
    · exact absurd h this
    · simp
def mA : Mv := ([97], 3)
theorem mayA : may [] mA := by refine ⟨?_, ?_, ?_, ?_⟩ <;> decide
theorem JA_len : 5 < (J ([] ++ [mA])).length ∧ (J ([] ++ [mA])).length ≤ 1000 := by
  constructor
  · have h0 : ∀ k : Int, 1 ≤ (itoa k).length := itoa_ne
    have h1 := h0 ((0 : Nat) : Int)
    have h2 := h0 3
    have h3 := h0 ((chk (pre 0 mA) : Nat) : Int)
    show 5 < (lineB 0 mA ++ []).length
    rw [List.append_nil]
    unfold lineB body
    generalize itoa ((chk (pre 0 mA) : Nat) : Int) = x at *
    unfold pre mA
    simp only [List.length_append, List.length_cons, List.length_nil]
    omega
  · have := Jf_len (a := [] ++ [mA]) (n := 0) (Valid.nil.snoc mayA).all (by simp)
    simp at this
    show (Jf 0 [mA]).length ≤ 1000
    omega
set_option maxHeartbeats 4000000 in
set_option maxRecDepth 100000 in
theorem stored_any (w : World) (he : Env w) : Calls Tryd.prog 8 #[] w fun e w' => e = .returned (.bool true) ∧ w.Since w.heap.size w' := by
  obtain ⟨db, hdb⟩ : ∃ db, db = w.heap.size := ⟨_, rfl⟩
  have HS : Hid (w.Since w.heap.size (w.alloc (.cells #[.map none, .slice none 0 0, .int .i64 0] 37))) := Lib.hid ((World.Since.refl _ _).alloc (Nat.le_refl _) _)
  have HD := Lib.hid (DepMem.new' w (Nat.le_refl w.heap.size) hdb)
  have HE := Lib.hid (he.since HS.out he.low)
  have CD := Lib.hid (Do_any HD.out HE.out he.low (Nat.zero_le _) ⟨#[97]⟩ 3 (by decide) (by decide) (by decide))
  clear he
  go_enter Tryd.func8, Tryd.ntmps8
  go_upto_region 2 with fail
  rw [← hdb]
  clear hdb
  generalize w.alloc (.cells #[.map none, .slice none 0 0, .int .i64 0] 37) = w1 at *
  go_wp2_with fail
  refine CD.out.mono ?_
  rintro e w2 ⟨hs2, hres⟩
  have hres2 : e = .returned .nilIface ∧ ∃ mv' jv', DepMem w2 w.heap.size db ([] ++ [mA]) mv' jv' := by
    rcases hres with ⟨_, h⟩ | ⟨h, _⟩
    · exact h
    · exact absurd mayA h
  obtain ⟨rfl, mv', jv', hd2⟩ := hres2
  have HS2 := Lib.hid (HS.out.trans hs2)
  have CH := Lib.hid (Have_any hd2 ⟨#[97]⟩ (by decide) 3 (by decide))
  have CJ := Lib.hid (Journal_any hd2 (by have := JA_len.2; omega))
  clear hres hs2 HD HS HE CD hd2
  go_wp2_with fail
  refine CH.out.mono ?_
  rintro e w3 ⟨rfl, rfl⟩
  go_wp2_with fail
  refine CJ.out.mono ?_
  rintro e w4 ⟨bv, rfl, hr, hs4⟩
  obtain ⟨A, c, rfl, _⟩ := own_form hr
  have HS4 := Lib.hid (HS2.out.trans (since_down hs4 HS2.out.size))
  obtain ⟨q, hq⟩ : ∃ q, q = (J ([] ++ [mA])).length := ⟨_, rfl⟩
  rw [← hq]
  have hq5 : (5 : Int) < (q : Int) := by have := JA_len.1; omega
  clear hr hs4 CH CJ hq
  go_wp2
  go_ret
  exact ⟨rfl, HS4.out⟩
end Go.Proofs.YtgahgdgpncnffaaDoor
