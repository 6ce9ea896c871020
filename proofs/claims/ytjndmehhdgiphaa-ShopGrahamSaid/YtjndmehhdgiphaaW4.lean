/- shop: the example `flowed`; ShopJohnsoned's walk. -/
import Derived.Test.YtjndmehhdgiphaaW3
namespace Go.Proofs.Ytjndmehhdgiphaa
open Go.RowKit PermM StabM FlowM

def TruePost (w : World) (e : Ending) (w' : World) : Prop := e = .returned (.bool true) ∧ w.Since w.heap.size w'
/-- a sorted row, as a list -/
def rowL (n : Nat) (f : Nat → Nat) : List Nat := seg f 0 n
theorem rowL_get {n : Nat} {f : Nat → Nat} {i : Nat} (hi : i < n) : (rowL n f).getD i 0 = f i := by
  unfold rowL seg
  rw [List.getD_eq_getElem?_getD, List.getElem?_map, List.getElem?_range' (by omega)]
  simp
theorem rowL_perm {n : Nat} {f : Nat → Nat} {cf : Nat → Nat → Int} (h : SortPost cf n 0 n (fun i => i) f) : IsPerm n (rowL n f) := by
  have hp := h.perm.perm
  have e : seg (fun i => i) 0 n = List.range n := by unfold seg; simp [List.range_eq_range']
  rw [e] at hp
  exact ⟨by show (seg f 0 n).length = n; rw [hp.length_eq, List.length_range], hp.nodup_iff.2 List.nodup_range, fun x hx => List.mem_range.1 (hp.mem_iff.1 hx)⟩
theorem perm_range {n : Nat} {l : List Nat} (h : IsPerm n l) : l.Perm (List.range n) :=
  (List.perm_ext_iff_of_nodup h.nodup List.nodup_range).2 (fun x => ⟨fun hx => List.mem_range.2 (h.lt x hx), fun hx => h.all x (List.mem_range.1 hx)⟩)
theorem rowL_sorted {n : Nat} {f : Nat → Nat} {cf : Nat → Nat → Int} (h : SortPost cf n 0 n (fun i => i) f) : (rowL n f).Pairwise (leC cf) := by
  rw [List.pairwise_iff_getElem]
  intro i j hi hj hij
  have hl : (rowL n f).length = n := by unfold rowL seg; simp
  have e : ∀ k (hk : k < (rowL n f).length), (rowL n f)[k] = f k := fun k hk => by
    have := rowL_get (n := n) (f := f) (i := k) (by omega)
    rw [List.getD_eq_getElem?_getD, List.getElem?_eq_getElem hk] at this
    exact this
  rw [e i hi, e j hj]
  exact h.sorted i j (Nat.zero_le _) hij (by omega)
theorem row_ints {w : World} {g n : Nat} {f : Nat → Nat} (h : w.rowIs g 3 n (natF f)) : IntsAt w (some ⟨g, 0, none⟩) (ints (rowL n f)) :=
  natsAt (n := n) (by unfold rowL seg; simp) (h.congr (fun i hi => by unfold natF natsV; rw [rowL_get hi]))

def tL : List Duo := [(3, 1), (1, 3)]
def tLc : Array Value := #[.int .i64 3, .int .i64 1, .int .i64 1, .int .i64 3]
def tLf (i : Nat) : Value := tLc.getD i (.bool false)
theorem tL_at (w : World) : DuoAt (w.alloc (.cells tLc 45)) (some ⟨w.heap.size, 0, none⟩) tL := fun k hk => by
  have hr : (w.alloc (.cells tLc 45)).rowIs w.heap.size 45 4 tLf := World.rowIs_alloc w tLc 45 tLf (fun i hi => by
    unfold tLf
    rw [Array.getD, dif_pos hi]
    exact Array.getElem?_eq_getElem hi)
  refine ⟨w.heap.size, 0, rfl, hr.lt, fun i x hx => ?_⟩
  match i, hx with
  | 0, hx => cases hx; exact ⟨hr.cell (i := 0) (by decide), hr.cell (i := 1) (by decide)⟩
  | 1, hx => cases hx; exact ⟨hr.cell (i := 2) (by decide), hr.cell (i := 3) (by decide)⟩
theorem tL_ok : DuosOk tL := ⟨by decide, fun x hx => by
  simp only [tL, List.mem_cons, List.not_mem_nil, or_false] at hx
  rcases hx with rfl | rfl <;> (unfold duoOk; decide)⟩
theorem tL_row {f : Nat → Nat} (h : SortPost (jcmp (fa tL) (fb tL)) 2 0 2 (fun i => i) f) : f 0 = 1 ∧ f 1 = 0 := by
  have hp := rowL_perm h
  have hs := rowL_sorted h
  have e : rowL 2 f = [f 0, f 1] := rfl
  rw [e] at hp hs
  have h0 := hp.lt (f 0) (by simp)
  have h1 := hp.lt (f 1) (by simp)
  have hn := hp.nodup
  simp only [List.nodup_cons, List.mem_cons, List.not_mem_nil, or_false, List.pairwise_cons] at hn hs
  have hle := hs.1 (f 1) rfl
  have hne := hn.1
  clear hs hp hn h e
  generalize f 0 = a at *
  generalize f 1 = b at *
  have : a = 0 ∨ a = 1 := by omega
  have : b = 0 ∨ b = 1 := by omega
  rcases ‹a = 0 ∨ a = 1› with rfl | rfl <;> rcases ‹b = 0 ∨ b = 1› with rfl | rfl
  · exact absurd rfl hne
  · exact absurd (show jcmp (fa tL) (fb tL) 1 0 < 0 by decide) hle
  · exact ⟨rfl, rfl⟩
  · exact absurd rfl hne
theorem tL_flow : flow (fa tL) (fb tL) 0 0 [1, 0] = 5 := by decide
set_option maxHeartbeats 4000000 in
theorem flowed_any (w : World) : Calls Try.prog 8 #[] w (TruePost w) := by
  go_enter Try.func8, Try.ntmps8
  go_wp2_with fail
  refine (Johnson_ok (js := tL) (cap := 2) (tL_at w) tL_ok).mono ?_
  rintro e w1 ⟨hs1, g, f, rfl, hg, hrow, hf⟩
  obtain ⟨f0, f1⟩ := tL_row hf
  have hI := row_ints hrow
  have hp := rowL_perm hf
  have e2 : rowL tL.length f = [1, 0] := by
    show [f 0, f 1] = _
    rw [f0, f1]
  rw [e2] at hI hp
  have hss : w.Since w.heap.size w1 := since_join ((World.Since.refl _ _).alloc (Nat.le_refl _) _) hs1
  have hc0 := hrow.cell (i := 0) (by decide)
  have hc1 : w1.cell? ⟨g, 0, none⟩ = some (.int .i64 1) := by rw [hc0]; unfold natF; rw [f0]; rfl
  have ht := (tL_at w).same hs1
  clear hf hrow hc0 f0 f1 e2
  go_wp2_with fail
  refine (Flow_ok (js := tL) (cap := 2) (cap2 := 2) ht tL_ok hI hp).mono ?_
  rintro e w2 ⟨hs2, rfl⟩
  have hc2 : w2.cell? ⟨g, 0, none⟩ = some (.int .i64 1) := by rw [hs2.cell (World.block_lt_of_cell? _ _ hc1)]; exact hc1
  have hss2 := since_join hss hs2
  rw [tL_flow]
  clear hI hp ht hs1 hs2 hc1 hss
  go_wp2
  go_ret
  exact ⟨rfl, hss2⟩

theorem sorted_john {js : List Duo} {f : Nat → Nat} (h : SortPost (jcmp (fa js) (fb js)) js.length 0 js.length (fun i => i) f) {l : List Nat} (hl : IsPerm js.length l) :
    flow (fa js) (fb js) 0 0 (rowL js.length f) ≤ flow (fa js) (fb js) 0 0 l :=
  johnson _ _ ((rowL_sorted h).imp (fun {_ _} hxy => ahead_of hxy)) ((perm_range hl).trans (perm_range (rowL_perm h)).symm) 0 0

set_option maxHeartbeats 8000000 in
set_option maxRecDepth 100000 in
theorem johnsoned_any {A C : Option Addr} {cap cap2 : Nat} {js : List Duo} {mix : List Int} {w : World} (h : DuoAt w A js) (hlen : js.length ≤ 9223372036854775807) (hI : IntsAt w C mix) (hmix : mix.length ≤ 9223372036854775807) :
    Calls Try.prog 3 #[.slice A js.length cap, .slice C mix.length cap2] w (TruePost w) := by
  by_cases h40 : 40 < js.length
  · have h40z : (40 : Int) < (js.length : Int) := by omega
    clear h hI
    go_enter Try.func3, Try.ntmps3
    go_wp2
    go_ret
    exact ⟨rfl, World.Since.refl _ _⟩
  have h40' : js.length ≤ 40 := by omega
  have h40z : (js.length : Int) ≤ 40 := by omega
  by_cases h100 : 100 < mix.length
  · have h100z : (100 : Int) < (mix.length : Int) := by omega
    clear h hI
    go_enter Try.func3, Try.ntmps3
    go_wp2
    go_ret
    exact ⟨rfl, World.Since.refl _ _⟩
  have h100' : mix.length ≤ 100 := by omega
  have h100z : (mix.length : Int) ≤ 100 := by omega
  by_cases t : DuosOk js
  · have HT := Lib.hid t
    have C7 := Lib.hid (Johnson_ok (cap := cap) h t)
    have H := Lib.hid h
    have HI := Lib.hid hI
    clear h hI t h40 h100
    go_enter Try.func3, Try.ntmps3
    go_wp2_with fail
    refine C7.out.mono ?_
    rintro e w1 ⟨hs1, g, f, rfl, hg, hrow, hf⟩
    have Hrow := Lib.hid (row_ints hrow)
    have Hf := Lib.hid hf
    clear hrow hf
    go_wp2_with fail
    refine (flowed_any _).mono ?_
    rintro e w2 ⟨rfl, hs2⟩
    have hs02 := since_join hs1 hs2
    go_wp2_with fail
    refine (Flow_ok (cap := cap) (cap2 := js.length) (H.out.same hs02) HT.out (Hrow.out.since (Nat.le_refl _) hs2) (rowL_perm Hf.out)).mono ?_
    rintro e w3 ⟨hs3, rfl⟩
    have hs03 := since_join hs02 hs3
    go_wp2_with fail
    refine (shuffled_any js.length C cap2 mix w3 (by omega) (HI.out.since (Nat.le_refl _) hs03) (by omega)).mono ?_
    rintro e w4 ⟨hs4, rfl, l, hp, hr4⟩
    have hs04 := since_join hs03 hs4
    go_wp2_with fail
    refine (Flow_ok (cap := cap) (cap2 := js.length) (H.out.same hs04) HT.out (natsAt hp.len hr4) hp).mono ?_
    rintro e w5 ⟨hs5, rfl⟩
    have hs05 := since_join hs04 hs5
    have hle := sorted_john Hf.out hp
    generalize flow (fa js) (fb js) 0 0 (rowL js.length f) = a at *
    generalize flow (fa js) (fb js) 0 0 l = b at *
    clear hr4 hs1 hs2 hs3 hs4 hs5
    go_wp2
    go_ret
    exact ⟨rfl, hs05⟩
  · have C7 := Lib.hid (Johnson_bad (cap := cap) h hlen t)
    clear h hI t h40 h100
    go_enter Try.func3, Try.ntmps3
    go_wp2_with fail
    refine C7.out.mono ?_
    rintro e w1 ⟨hs1, k, rfl⟩
    go_wp2_with fail
    refine (flowed_any _).mono ?_
    rintro e w2 ⟨rfl, hs2⟩
    go_wp2_with fail
    refine (flowed_any _).mono ?_
    rintro e w3 ⟨rfl, hs3⟩
    go_wp2
    go_ret
    exact ⟨rfl, since_join (since_join hs1 hs2) hs3⟩
end Go.Proofs.Ytjndmehhdgiphaa
