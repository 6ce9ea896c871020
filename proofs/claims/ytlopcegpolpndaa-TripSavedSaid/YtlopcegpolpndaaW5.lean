/- trip.Round: a shortest round way (Held and Karp). -/
import Derived.Test.YtlopcegpolpndaaW4
import Derived.Laws.BitsAllLaws
import Derived.Laws.BitsLemmas
import Derived.Laws.ShiftsVarLaws
import Derived.Laws.ShiftsVar
namespace Go.Proofs.Ytlopcegpolpndaa
open Go.RowKit PermM TripM

/-- the row of rows when c are made -/
def top (N n c : Nat) : Nat → Value := fun j => if j < c then .slice (some ⟨N + 1 + j, 0, none⟩) n n else .slice none 0 0
theorem info_rows : (Try.prog.info? 23).map (fun i => (i.zero, i.size, i.bytes)) = some (some (.slice none 0 0), 1, 24) := by kernel_rfl
/-- c rows are made and full -/
structure Outer (w wr : World) (n M c : Nat) (V : Nat → Nat → Int) : Prop where
  since : w.Since w.heap.size wr
  size : wr.heap.size = w.heap.size + 1 + c
  top : wr.rowIs w.heap.size 23 M (top w.heap.size n c)
  done : ∀ s, s < c → wr.rowIs (w.heap.size + 1 + s) 3 n (fun i => .int .i64 (V s i))
/-- row c is made, r of its cells are full -/
structure Inner (w wi : World) (n M c r : Nat) (V : Nat → Nat → Int) : Prop where
  since : w.Since w.heap.size wi
  size : wi.heap.size = w.heap.size + 1 + c + 1
  top : wi.rowIs w.heap.size 23 M (top w.heap.size n (c + 1))
  done : ∀ s, s < c → wi.rowIs (w.heap.size + 1 + s) 3 n (fun i => .int .i64 (V s i))
  cur : wi.rowIs (w.heap.size + 1 + c) 3 n (fun i => if i < r then .int .i64 (V c i) else .int .i64 0)
theorem outer_start (w : World) (n M : Nat) (V : Nat → Nat → Int) : Outer w (w.alloc (.cells (madeCells #[.slice none 0 0] M) 23)) n M 0 V :=
  ⟨(World.Since.refl _ _).alloc (Nat.le_refl _) _, by simp, (World.rowIs_made w _ M 23).congr (fun j _ => by simp [Ytlopcegpolpndaa.top]), fun j hj => absurd hj (Nat.not_lt_zero _)⟩
theorem inner_start {w wr : World} {n M c : Nat} {V : Nat → Nat → Int} (h : Outer w wr n M c V) :
    Inner w ((wr.alloc (.cells (madeCells #[.int .i64 0] n) 3)).setCell ⟨w.heap.size, c, none⟩ (.slice (some ⟨w.heap.size + 1 + c, 0, none⟩) n n)) n M c 0 V := by
  have hnew := World.rowIs_made wr (.int .i64 0) n 3
  rw [h.size] at hnew
  refine ⟨(h.since.alloc (by rw [h.size]; omega) _).setCell (Nat.le_refl _) _, by simp [h.size], ((h.top.alloc _).set c _).congr (fun j _ => ?_), fun j hj => ((h.done j hj).alloc _).setOther (by show w.heap.size + 1 + j ≠ w.heap.size; omega) _,
    (hnew.setOther (by show w.heap.size + 1 + c ≠ w.heap.size; omega) _).congr (fun i _ => by simp)⟩
  simp only [Ytlopcegpolpndaa.top]
  by_cases e : j = c
  · subst e; simp
  · rw [if_neg e]
    by_cases hlt : j < c
    · rw [if_pos hlt, if_pos (by omega)]
    · rw [if_neg hlt, if_neg (by omega)]
theorem Inner.drewN {w wi : World} {n M c r : Nat} {V : Nat → Nat → Int} (h : Inner w wi n M c r V) (k : Nat) : Inner w (wi.drewN k) n M c r V :=
  ⟨since_drewN h.since _, h.size, h.top, h.done, h.cur⟩
/-- a cell that stays 0 -/
theorem inner_skip {w wi : World} {n M c r : Nat} {V : Nat → Nat → Int} (h : Inner w wi n M c r V) (h0 : V c r = 0) : Inner w wi n M c (r + 1) V := by
  refine ⟨h.since, h.size, h.top, h.done, h.cur.congr (fun i _ => ?_)⟩
  by_cases e : i = r
  · subst e; simp [h0]
  · by_cases hlt : i < r
    · rw [if_pos hlt, if_pos (by omega)]
    · rw [if_neg hlt, if_neg (by omega)]
theorem inner_set {w wi : World} {n M c r : Nat} {V : Nat → Nat → Int} (h : Inner w wi n M c r V) :
    Inner w (wi.setCell ⟨w.heap.size + 1 + c, r, none⟩ (.int .i64 (V c r))) n M c (r + 1) V := by
  refine ⟨h.since.setCell (by show w.heap.size ≤ w.heap.size + 1 + c; omega) _, by simp [h.size], h.top.setOther (by show w.heap.size ≠ w.heap.size + 1 + c; omega) _,
    fun j hj => (h.done j hj).setOther (by show w.heap.size + 1 + j ≠ w.heap.size + 1 + c; omega) _, (h.cur.set r _).congr (fun i _ => ?_)⟩
  by_cases e : i = r
  · subst e; simp
  · rw [if_neg e]
    by_cases hlt : i < r
    · rw [if_pos hlt, if_pos (by omega)]
    · rw [if_neg hlt, if_neg (by omega)]
theorem inner_done {w wi : World} {n M c : Nat} {V : Nat → Nat → Int} (h : Inner w wi n M c n V) : Outer w wi n M (c + 1) V :=
  ⟨h.since, by rw [h.size]; omega, h.top, fun j hj => by
    by_cases e : j = c
    · subst e; exact h.cur.congr (fun i hi => by rw [if_pos hi])
    · exact h.done j (by omega)⟩

/-- what a cell of the table holds -/
noncomputable def lv (m : List (List Int)) (s i : Nat) : Int :=
  if s % 2 = 1 ∨ s.testBit i = true then 0 else @dite _ (∃ v, IsLeast (dOf m) m.length s i v) (Classical.propDecidable _) (fun h => h.choose) (fun _ => 0)
theorem lv_zero {m : List (List Int)} {s i : Nat} (h : s % 2 = 1 ∨ s.testBit i = true) : lv m s i = 0 := if_pos h
theorem lv_of {m : List (List Int)} {s i : Nat} {v : Int} (h1 : s % 2 ≠ 1) (h2 : s.testBit i = false) (h : IsLeast (dOf m) m.length s i v) : lv m s i = v := by
  unfold lv
  rw [if_neg (by simp [h1, h2]), dif_pos ⟨v, h⟩]
  exact (Exists.choose_spec (⟨v, h⟩ : ∃ v, IsLeast (dOf m) m.length s i v)).unique _ h
theorem pow_bd {n : Nat} (h : n ≤ 7) : 2 ^ n ≤ 128 := by
  have := Nat.pow_le_pow_right (show 0 < 2 by omega) h
  omega
theorem wrap_pow {n : Nat} (h : n ≤ 7) : wrap64 ((2 : Int) ^ n) = ((2 ^ n : Nat) : Int) := by
  have h1 := pow_bd h
  have h2 : (2 : Int) ^ n = ((2 ^ n : Nat) : Int) := by simp
  rw [h2]
  generalize 2 ^ n = x at *
  unfold wrap64
  omega
theorem ofInt_i64 (a : Nat) (ha : a < 9223372036854775808) : (BitVec.ofInt 64 (a : Int)).toNat = a := by
  rw [BitVec.ofInt_natCast, BitVec.toNat_ofNat]; exact Nat.mod_eq_of_lt (by omega)
theorem i64_and_nat (a b : Nat) (ha : a < 9223372036854775808) (hb : b < 9223372036854775808) : bits .and .i64 (a : Int) (b : Int) = ((a &&& b : Nat) : Int) := by
  have hx : a &&& b < 2 ^ 63 := Nat.and_lt_two_pow _ (by omega)
  show IntKind.i64.wrap ((BitVec.ofInt 64 (a : Int) &&& BitVec.ofInt 64 (b : Int)).toNat : Int) = _
  rw [BitVec.toNat_and, ofInt_i64 a ha, ofInt_i64 b hb, IntKind.wrap_i64]
  omega
theorem i64_andNot_nat (a b : Nat) (ha : a < 9223372036854775808) (hb : b < 9223372036854775808) : bits .andNot .i64 (a : Int) (b : Int) = ((a &&& (18446744073709551615 - b) : Nat) : Int) := by
  have hx : a &&& (18446744073709551615 - b) ≤ a := Nat.and_le_left
  show IntKind.i64.wrap ((BitVec.ofInt 64 (a : Int) &&& ~~~BitVec.ofInt 64 (b : Int)).toNat : Int) = _
  rw [BitVec.toNat_and, BitVec.toNat_not, ofInt_i64 a ha, ofInt_i64 b hb, IntKind.wrap_i64]
  have e : 2 ^ 64 - 1 - b = 18446744073709551615 - b := by omega
  rw [e]
  omega
theorem and_one (a : Nat) (ha : a < 9223372036854775808) : bits .and .i64 (a : Int) 1 = ((a % 2 : Nat) : Int) := by
  have := i64_and_nat a 1 ha (by omega)
  rw [Nat.and_one_is_mod] at this
  exact this
set_option maxRecDepth 100000 in
theorem andnot_all : ∀ c, c < 128 → ∀ k, k < 7 → c.testBit k = true → (c &&& (18446744073709551615 - 2 ^ k)) = c ^^^ 2 ^ k ∧ c ^^^ 2 ^ k < c := by decide
theorem bit_at (c r : Nat) (hc : c ≤ 128) : bits .and .i64 ((c : Int) / 2 ^ r) 1 = if c.testBit r = true then 1 else 0 := by
  have e : ((c : Int) / 2 ^ r) = ((c / 2 ^ r : Nat) : Int) := by simp
  have hd := Nat.div_le_self c (2 ^ r)
  rw [e, and_one _ (by omega), Nat.testBit_eq_decide_div_mod_eq]
  have := Nat.mod_lt (c / 2 ^ r) (show 2 > 0 by omega)
  by_cases h : c / 2 ^ r % 2 = 1
  · simp [h]
  · rw [if_neg (by simpa using h)]; omega
theorem not_at {c k : Nat} (hc : c < 128) (hk : k < 7) (hb : c.testBit k = true) : bits .andNot .i64 (c : Int) (wrap64 (2 ^ k)) = ((c ^^^ 2 ^ k : Nat) : Int) := by
  have h1 := pow_bd (show k ≤ 7 by omega)
  rw [wrap_pow (by omega), i64_andNot_nat _ _ (by omega) (by omega), (andnot_all c hc k hk hb).1]
theorem less_rm (n : Nat) {c k : Nat} (hb : c.testBit k = true) : Less n c (c ^^^ 2 ^ k) k := fun j _ _ => by
  rw [Nat.testBit_xor, Nat.testBit_two_pow]
  by_cases e : k = j
  · subst e; simp [hb]
  · have e' : ¬ j = k := fun h => e h.symm
    simp [e, e']
theorem rm_even {c k : Nat} (h : c % 2 ≠ 1) (hk : 1 ≤ k) : (c ^^^ 2 ^ k) % 2 ≠ 1 := by
  have h0 : c.testBit 0 = false := by rw [Nat.testBit_eq_decide_div_mod_eq]; simpa using h
  have h1 : (c ^^^ 2 ^ k).testBit 0 = false := by
    rw [Nat.testBit_xor, Nat.testBit_two_pow, h0]; simp; omega
  rw [Nat.testBit_eq_decide_div_mod_eq] at h1
  simpa using h1
theorem rm_self {c k : Nat} (hb : c.testBit k = true) : (c ^^^ 2 ^ k).testBit k = false := by
  rw [Nat.testBit_xor, Nat.testBit_two_pow]; simp [hb]
/-- a set that holds something, all of it between 1 and n -/
theorem some_bit {n c : Nat} (h : c % 2 ≠ 1) (h0 : c ≠ 0) (hc : c < 2 ^ n) : ∃ k, 1 ≤ k ∧ k < n ∧ c.testBit k = true := by
  obtain ⟨k, hk⟩ := Nat.exists_testBit_of_ne_zero h0
  have hkn : k < n := by
    apply Classical.byContradiction
    intro hn
    have : 2 ^ n ≤ 2 ^ k := Nat.pow_le_pow_right (by omega) (by omega)
    rw [Nat.testBit_lt_two_pow (by omega)] at hk
    cases hk
  have hk1 : k ≠ 0 := by
    rintro rfl
    rw [Nat.testBit_eq_decide_div_mod_eq] at hk
    simp at hk; omega
  exact ⟨k, by omega, hkn, hk⟩
theorem full_bit {n k : Nat} (h1 : 1 ≤ k) (hk : k < n) : (2 ^ n - 2).testBit k = true := by
  have h2 : 2 ^ n - 2 = 2 * (2 ^ (n - 1) - 1) := by
    have : 2 ^ n = 2 * 2 ^ (n - 1) := by rw [← Nat.pow_succ']; congr 1; omega
    rw [this]
    have := Nat.two_pow_pos (n - 1)
    omega
  rw [h2]
  obtain ⟨q, rfl⟩ : ∃ q, k = q + 1 := ⟨k - 1, by omega⟩
  rw [Nat.testBit_succ, Nat.mul_div_cancel_left _ (by omega), Nat.testBit_two_pow_sub_one]
  simp; omega
theorem pathLen_bd {D : Nat → Nat → Int} (hD : ∀ a b, 0 ≤ D a b ∧ D a b ≤ 1000000000) : ∀ l : List Nat, 0 ≤ pathLen D l ∧ pathLen D l ≤ 1000000000 * (l.length : Int)
  | [] => ⟨Int.le_refl _, by simp [pathLen]⟩
  | [_] => ⟨Int.le_refl _, by simp [pathLen]⟩
  | a :: b :: r => by
    have := pathLen_bd hD (b :: r)
    have := hD a b
    simp only [pathLen, List.length_cons] at *
    omega
theorem least_bd {m : List (List Int)} (t : MapOk m) {s i : Nat} {v : Int} (h : IsLeast (dOf m) m.length s i v) : 0 ≤ v ∧ v ≤ 20000000000 := by
  obtain ⟨p, hp, rfl⟩ := h.some
  have h1 := pathLen_bd (fun a b => dOf_bd t a b) (i :: p ++ [0])
  have h2 := nodup_le _ p hp.1 (fun x hx => ((hp.2 x).1 hx).2.1)
  have h3 := t.few
  unfold cost
  simp only [List.cons_append, List.length_cons, List.length_append, List.length_nil] at h1 ⊢
  omega

theorem one_new (w : World) (u : Value) (t : TypeId) : ∀ (j : Nat) (x : Value), [u][j]? = some x → (w.alloc (.cells #[u] t)).cell? ((⟨w.heap.size, 0, none⟩ : Addr).add j) = some x := by
  intro j x hx
  match j with
  | 0 => simp at hx; subst hx; rw [show (⟨w.heap.size, 0, none⟩ : Addr).add 0 = ⟨w.heap.size, 0, none⟩ from rfl, World.cell?_alloc_at _ _ _ _ rfl]; rfl
  | j + 1 => simp at hx
theorem sub_len : ∀ (a b : List Nat), a.Nodup → (∀ x ∈ a, x ∈ b) → a.length ≤ b.length
  | [], b, _, _ => by simp
  | x :: a, b, hn, hs => by
    have hn' := List.nodup_cons.1 hn
    have hx := hs x (List.mem_cons_self ..)
    have := sub_len a (b.erase x) hn'.2 (fun y hy => (List.mem_erase_of_ne (fun (e : y = x) => hn'.1 (e ▸ hy))).2 (hs y (List.mem_cons_of_mem _ hy)))
    rw [List.length_erase_of_mem hx] at this
    have := List.length_pos_of_mem hx
    simp only [List.length_cons]; omega
/-- the first way, as far as it is -/
structure RP (m : List (List Int)) (all : Int) (S at' : Nat) (l : List Nat) : Prop where
  ev : S % 2 ≠ 1
  nd : l.Nodup
  mem : ∀ j, j < m.length → (j ∈ l ↔ S.testBit j = false)
  lt : ∀ x ∈ l, x < m.length
  last : l.getLastD 0 = at'
  head : l.getD 0 0 = 0
  ne : l ≠ []
  len : pathLen (dOf m) l + lv m S at' = all
theorem RP.atMem {m : List (List Int)} {all : Int} {S at' : Nat} {l : List Nat} (h : RP m all S at' l) : at' ∈ l := by
  rw [← h.last]
  cases l with
  | nil => exact absurd rfl h.ne
  | cons a l => rw [List.getLastD_cons, List.getLastD_eq_getLast?]; cases l with
    | nil => simp
    | cons b l => rw [List.getLast?_eq_some_getLast (by simp)]; exact List.mem_cons_of_mem _ (List.getLast_mem _)
theorem RP.at_lt {m : List (List Int)} {all : Int} {S at' : Nat} {l : List Nat} (h : RP m all S at' l) : at' < m.length := h.lt _ h.atMem
theorem RP.at_bit {m : List (List Int)} {all : Int} {S at' : Nat} {l : List Nat} (h : RP m all S at' l) : S.testBit at' = false := (h.mem _ h.at_lt).1 h.atMem
theorem RP.len_le {m : List (List Int)} {all : Int} {S at' : Nat} {l : List Nat} (h : RP m all S at' l) : l.length ≤ m.length := nodup_le _ l h.nd h.lt
theorem RP.step {m : List (List Int)} {all : Int} {S at' k : Nat} {l : List Nat} (h : RP m all S at' l) (hk1 : 1 ≤ k) (hk : k < m.length) (hb : S.testBit k = true) (he : dOf m at' k + lv m (S ^^^ 2 ^ k) k = lv m S at') : RP m all (S ^^^ 2 ^ k) k (l ++ [k]) := by
  have hnk : k ∉ l := fun hm => by rw [(h.mem k hk).1 hm] at hb; cases hb
  refine ⟨rm_even h.ev hk1, ?_, fun j hj => ?_, fun x hx => ?_, lastD_snoc _ _ _, ?_, by simp, ?_⟩
  · rw [List.nodup_append]
    refine ⟨h.nd, by simp, fun a ha b hb e => ?_⟩
    simp at hb; subst hb; subst e; exact hnk ha
  · rw [List.mem_append, h.mem j hj, Nat.testBit_xor, Nat.testBit_two_pow]
    by_cases e : k = j
    · subst e; simp [hb]
    · have e' : ¬ j = k := fun h => e h.symm
      simp [e, e']
  · rcases List.mem_append.1 hx with hx | hx
    · exact h.lt x hx
    · simp at hx; omega
  · have hl := List.length_pos_iff.2 h.ne
    rw [List.getD_eq_getElem?_getD, List.getElem?_append_left hl, ← List.getD_eq_getElem?_getD, h.head]
  · rw [pathLen_snoc _ _ _ h.ne, h.last, ← h.len, ← he]; omega
theorem RP.done {m : List (List Int)} {all : Int} {at' : Nat} {l : List Nat} (h : RP m all 0 at' l) (h2 : 2 ≤ m.length) : IsPerm m.length l ∧ longOf (dOf m) l = all := by
  have hall : ∀ j, j < m.length → j ∈ l := fun j hj => (h.mem j hj).2 (by simp)
  have h1 := h.len_le
  have h3 := sub_len (List.range m.length) l List.nodup_range (fun x hx => hall x (List.mem_range.1 hx))
  rw [List.length_range] at h3
  refine ⟨⟨by omega, h.nd, h.lt⟩, ?_⟩
  have hl : lv m 0 at' = dOf m at' 0 := lv_of (by simp) (by simp) (least_none _ _ (fun k _ _ => by simp))
  have hlast := lastD_take (l := l) (k := l.length) (by omega) (Nat.le_refl _)
  rw [List.take_of_length_le (Nat.le_refl _), h.last] at hlast
  rw [longOf_eq, if_pos (by omega), h.head, ← hlast, ← hl, h.len]
theorem RP.via {m : List (List Int)} {all : Int} {S at' : Nat} {l : List Nat} (h : RP m all S at' l) (hn : m.length ≤ 7) (hS : S < 2 ^ m.length) (h0 : S ≠ 0) (HL : ∀ s i, s < 2 ^ m.length → i < m.length → s % 2 ≠ 1 → s.testBit i = false → IsLeast (dOf m) m.length s i (lv m s i)) :
    ∃ k, 1 ≤ k ∧ k < m.length ∧ S.testBit k = true ∧ dOf m at' k + lv m (S ^^^ 2 ^ k) k = lv m S at' := by
  have hp := pow_bd hn
  have h1 := HL S at' hS h.at_lt h.ev h.at_bit
  obtain ⟨k, ⟨k1, k2, k3⟩, he⟩ := h1.via (dOf m) (some_bit h.ev h0 hS) (fun k => S ^^^ 2 ^ k) (fun k => lv m (S ^^^ 2 ^ k) k) (fun k _ _ k3 => less_rm _ k3) (fun k k1 k2 k3 => HL _ _ (Nat.lt_trans (andnot_all S (by omega) k (by omega) k3).2 hS) k2 (rm_even h.ev k1) (rm_self k3))
  exact ⟨k, k1, k2, k3, he⟩
theorem RP.start {m : List (List Int)} (h2 : 2 ≤ m.length) : RP m (lv m (2 ^ m.length - 2) 0) (2 ^ m.length - 2) 0 [0] := by
  have hp : 2 ^ m.length = 2 * 2 ^ (m.length - 1) := by rw [← Nat.pow_succ']; congr 1; omega
  have hpos := Nat.two_pow_pos (m.length - 1)
  refine ⟨by omega, by simp, fun j hj => ?_, by simp; omega, rfl, rfl, by simp, by simp [pathLen]⟩
  by_cases e : j = 0
  · subst e
    rw [Nat.testBit_eq_decide_div_mod_eq]
    simp; omega
  · rw [full_bit (by omega) hj]
    simp [e]

theorem own_full (w : World) (cur : Array Value) (e : TypeId) (n : Nat) (hn : n ≤ maxLen) (hs : cur.size = n) : (w.alloc (.cells cur e)).ownsRow w.heap.size e 1 (.slice (some ⟨w.heap.size, 0, none⟩) n n) n cur.toList :=
  ⟨by simp [hs], .inr ⟨w.heap.size, n, cur, rfl, Nat.le_refl _, heap_alloc_new w _, Nat.le_refl _, hn, by omega, by rw [Nat.mul_one, List.take_of_length_le]; simp [hs]⟩⟩

def RoundPost (m : List (List Int)) (w : World) (e : Ending) (w' : World) : Prop :=
  w.Since w.heap.size w' ∧ ((¬ MapOk m ∧ ∃ k, e = .returned (.tuple #[.slice none 0 0, .int .i64 0, .iface 46 (.int .i64 k)])) ∨
    (MapOk m ∧ ∃ v l, e = .returned (.tuple #[v, .int .i64 (longOf (dOf m) l), .nilIface]) ∧ w'.ownsRow w.heap.size 3 1 v m.length (l.map fun (x : Nat) => Value.int .i64 (x : Int)) ∧ IsPerm m.length l ∧ l.headD 0 = 0 ∧ ∀ l', IsPerm m.length l' → longOf (dOf m) l ≤ longOf (dOf m) l'))

set_option maxHeartbeats 4000000 in
set_option maxRecDepth 100000 in
theorem Round_big {A : Option Addr} {cap : Nat} {m : List (List Int)} {w : World} (h : MapAt w A m) (t : MapOk m) (hn : m.length ≤ 7) (h2 : 2 ≤ m.length) :
    Calls Try.prog 7 #[.slice A m.length cap] w (RoundPost m w) := by
  have hw := wrap_pow hn
  have hMb := pow_bd hn
  obtain ⟨M, hM⟩ : ∃ M, M = 2 ^ m.length := ⟨_, rfl⟩
  rw [← hM] at hw hMb
  have HM := Lib.hid hM
  clear hM
  have hz2 : (2 : Int) ≤ (m.length : Int) := by omega
  have hmk := fun W => run_make_row' (P := Try.prog) 22 23 (.slice none 0 0) 24 Try.underlying22 info_rows rfl .i64 .i64 M (by omega) (by omega) W
  have hmk3 := fun W => run_make_row' (P := Try.prog) 23 3 (.int .i64 0) 8 Try.underlying23 (show (Try.prog.info? 3).map (fun i => (i.zero, i.size, i.bytes)) = some (some (.int .i64 0), 1, 8) by kernel_rfl) rfl .i64 .i64 m.length (by omega) (by omega) W
  go_enter Try.func7, Try.ntmps7
  go_wp2_with fail
  refine (Check_ok h t).mono ?_
  rintro e w0 ⟨rfl, rfl⟩
  go_wp2
  go_loopg [34] M (fun g i wr => ∃ c : Nat, c ≤ M ∧ g = M - c ∧ i = .int .i64 c ∧ Outer w wr m.length M c (lv m) ∧ Hid (∀ s i, s < c → i < m.length → s % 2 ≠ 1 → s.testBit i = false → IsLeast (dOf m) m.length s i (lv m s i)))
  case atStart => exact ⟨0, Nat.zero_le _, rfl, rfl, outer_start w _ _ _, Lib.hid (fun s i hs => absurd hs (by omega))⟩
  case round =>
    have Hw := Lib.hid hw
    clear hmk hw
    obtain ⟨c, hc, rfl, rfl, hO, HL⟩ := hrel
    by_cases hcM : c < M
    · have hcz : (c : Int) < (M : Int) := by omega
      have hI0 := inner_start hO
      have hsize := hO.size
      have hst1 : ∀ o, (wr.alloc o).cell? ⟨w.heap.size, c, none⟩ = some (top w.heap.size m.length c c) := fun o => (hO.top.alloc o).cell hcM
      have hst2 : ∀ o, (wr.alloc o).frozen? ⟨w.heap.size, c, none⟩ = false := fun o => (hO.top.alloc o).frozen c
      clear hO
      go_wp2
      go_loopg [43] m.length (fun g i wr => ∃ r : Nat, r ≤ m.length ∧ g = m.length - r ∧ i = .int .i64 r ∧ Inner w wr m.length M c r (lv m) ∧ Hid (∀ i, i < r → c % 2 ≠ 1 → c.testBit i = false → IsLeast (dOf m) m.length c i (lv m c i)))
      case atStart => exact ⟨0, Nat.zero_le _, rfl, rfl, hI0, Lib.hid (fun i hi => absurd hi (by omega))⟩
      case round =>
        clear hI0 hsize hst1 hst2 hmk3
        obtain ⟨r, hr, rfl, rfl, hI, HL2⟩ := hrel
        by_cases hrn : r < m.length
        · have hrz : (r : Int) < (m.length : Int) := by omega
          by_cases ho : c % 2 = 1
          · have hb1 : bits .and .i64 (c : Int) 1 = 1 := by rw [and_one c (by omega), ho]; rfl
            go_wp2
            go_roundg (m.length - (r + 1))
            case measure => go_light; omega
            case rel =>
              go_light
              exact ⟨r + 1, by omega, rfl, by go_num, inner_skip hI (lv_zero (.inl ho)), Lib.hid (fun i hi h1 => absurd ho h1)⟩
          · have hb1 : bits .and .i64 (c : Int) 1 = 0 := by rw [and_one c (by omega)]; omega
            by_cases hbr : c.testBit r = true
            · have hb2 : bits .and .i64 ((c : Int) / 2 ^ r) 1 = 1 := by rw [bit_at c r (by omega), if_pos hbr]
              go_wp2
              go_roundg (m.length - (r + 1))
              case measure => go_light; omega
              case rel =>
                go_light
                refine ⟨r + 1, by omega, rfl, by go_num, inner_skip hI (lv_zero (.inr hbr)), Lib.hid (fun i hi h1 h2 => ?_)⟩
                by_cases e : i = r
                · subst e; rw [hbr] at h2; cases h2
                · exact HL2.out i (by omega) h1 h2
            · have hb2 : bits .and .i64 ((c : Int) / 2 ^ r) 1 = 0 := by rw [bit_at c r (by omega), if_neg hbr]
              have hbr' : c.testBit r = false := by simpa using hbr
              have g1 : wr.cell? ⟨w.heap.size, c, none⟩ = some (.slice (some ⟨w.heap.size + 1 + c, 0, none⟩) m.length m.length) := by simpa [top] using hI.top.cell hcM
              have g4 : wr.cell? ⟨w.heap.size + 1 + c, r, none⟩ = some (.int .i64 0) := by simpa using hI.cur.cell hrn
              have g5 : wr.frozen? ⟨w.heap.size + 1 + c, r, none⟩ = false := hI.cur.frozen r
              have hm2 := h.since hI.since
              obtain ⟨b, off, A1, c1, rfl, hb, ga, hga⟩ := t.at_ hm2 hrn
              by_cases hc0 : c = 0
              · have hcz0 : ((c : Int) == 0) = true := by simp [hc0]
                obtain ⟨b1, off1, rfl, hb1', gb⟩ := hga 0 (by omega)
                rw [Nat.add_zero] at gb
                have hl : IsLeast (dOf m) m.length c r (dOf m r 0) := by
                  subst hc0
                  exact least_none _ r (fun k _ _ => by simp)
                have HV := Lib.hid (lv_of ho hbr' hl)
                have hdb := dOf_bd t r 0
                have hl2 := Lib.hid hl
                clear hl hga hc0
                generalize dOf m r 0 = d at *
                have hmz : (0 : Int) < (m.length : Int) := by omega
                go_wp2
                go_region
                go_wp2
                go_roundg (m.length - (r + 1))
                case measure => go_light; omega
                case rel =>
                  go_light
                  refine ⟨r + 1, by omega, rfl, by go_num, ?_, Lib.hid (fun i hi h1 h2 => ?_)⟩
                  · rw [← HV.out]; exact inner_set (hI.drewN _)
                  by_cases e : i = r
                  · subst e; rw [HV.out]; exact hl2.out
                  · exact HL2.out i (by omega) h1 h2
              · have hcz0 : ((c : Int) == 0) = false := by simp; omega
                clear g4 g5
                go_wp2
                go_loopg [10, 11] (m.length - 1) (fun g bs k wr => ∃ (q : Nat) (v : Int), 1 ≤ q ∧ q ≤ m.length ∧ g = m.length - q ∧ k = .int .i64 q ∧ bs = .int .i64 v ∧ Inner w wr m.length M c r (lv m) ∧ -1 ≤ v ∧ v ≤ 40000000000 ∧
                  Hid ((v = -1 → ∀ j, 1 ≤ j → j < q → c.testBit j = false) ∧ (v ≠ -1 → 0 ≤ v ∧ (∃ j, 1 ≤ j ∧ j < q ∧ c.testBit j = true ∧ v = dOf m r j + lv m (c ^^^ 2 ^ j) j) ∧ ∀ j, 1 ≤ j → j < q → c.testBit j = true → v ≤ dOf m r j + lv m (c ^^^ 2 ^ j) j)))
                case atStart => exact ⟨1, -1, Nat.le_refl _, by omega, rfl, rfl, rfl, hI, by omega, by omega, Lib.hid ⟨fun _ j h1 h2 => by omega, fun h => absurd rfl h⟩⟩
                case round =>
                  clear hI g1 hm2 hb ga hga
                  obtain ⟨q, v, hq1, hqn, rfl, rfl, rfl, hI, hv0, hv1, HB⟩ := hrel
                  by_cases hq : q < m.length
                  · have hqz : (q : Int) < (m.length : Int) := by omega
                    by_cases hbq : c.testBit q = true
                    · have hb2 : bits .and .i64 ((c : Int) / 2 ^ q) 1 = 1 := by rw [bit_at c q (by omega), if_pos hbq]
                      have hnot := not_at (show c < 128 by omega) (show q < 7 by omega) hbq
                      have hlt := (andnot_all c (by omega) q (by omega) hbq).2
                      have hev := rm_even ho hq1
                      have hls := HL.out (c ^^^ 2 ^ q) q hlt hq hev (rm_self hbq)
                      have hbd := least_bd t hls
                      have g1 := hI.top.cell (i := c ^^^ 2 ^ q) (by omega)
                      rw [show top w.heap.size m.length (c + 1) (c ^^^ 2 ^ q) = .slice (some ⟨w.heap.size + 1 + (c ^^^ 2 ^ q), 0, none⟩) m.length m.length by unfold top; rw [if_pos (by omega)]] at g1
                      have g2 := (hI.done _ hlt).cell hq
                      have hm2 := h.since hI.since
                      obtain ⟨b', off', A1', c1', hAA, hb, ga, hga⟩ := t.at_ hm2 hrn
                      injection hAA with hAA; injection hAA with e1 e2; subst e1 e2
                      obtain ⟨b1, off1, rfl, hb1', gb⟩ := hga q hq
                      have hd := dOf_bd t r q
                      have hltz : ((c ^^^ 2 ^ q : Nat) : Int) < (M : Int) := by omega
                      obtain ⟨x, hx⟩ : ∃ x, x = lv m (c ^^^ 2 ^ q) q := ⟨_, rfl⟩
                      obtain ⟨d, hdd⟩ : ∃ d, d = dOf m r q := ⟨_, rfl⟩
                      rw [← hx] at g2 hbd
                      rw [← hdd] at gb hd
                      have Hx := Lib.hid hx
                      have Hd := Lib.hid hdd
                      clear hx hdd hls hga hev
                      obtain ⟨c', hc'⟩ : ∃ c', c' = c ^^^ 2 ^ q := ⟨_, rfl⟩
                      rw [← hc'] at hnot hlt g1 g2 hltz Hx
                      have HC := Lib.hid hc'
                      clear hc'
                      go_wp2
                      go_quiet (fail)
                      by_cases hv : v = -1
                      · subst hv
                        go_wp2
                        go_roundg (m.length - (q + 1))
                        case measure => go_light; omega
                        case rel =>
                          go_light
                          refine ⟨q + 1, d + x, by omega, by omega, rfl, by go_num, rfl, hI.drewN _, by omega, by omega, Lib.hid ⟨fun e => by omega, fun _ => ⟨by omega, ⟨q, hq1, by omega, hbq, by rw [← HC.out, ← Hd.out, ← Hx.out]⟩, fun j h1 h2 h3 => ?_⟩⟩⟩
                          by_cases ej : j = q
                          · subst ej; rw [← HC.out, ← Hd.out, ← Hx.out]; exact Int.le_refl _
                          · rw [HB.out.1 (by trivial) j h1 (by omega)] at h3; cases h3
                      · have hv00 := (HB.out.2 hv).1
                        have hvf : decide (v < 0) = false := by simpa using hv00
                        by_cases hless : d + x < v
                        · go_wp2
                          go_roundg (m.length - (q + 1))
                          case measure => go_light; omega
                          case rel =>
                            go_light
                            refine ⟨q + 1, d + x, by omega, by omega, rfl, by go_num, rfl, hI.drewN _, by omega, by omega, Lib.hid ⟨fun e => by omega, fun _ => ⟨by omega, ⟨q, hq1, by omega, hbq, by rw [← HC.out, ← Hd.out, ← Hx.out]⟩, fun j h1 h2 h3 => ?_⟩⟩⟩
                            by_cases ej : j = q
                            · subst ej; rw [← HC.out, ← Hd.out, ← Hx.out]; exact Int.le_refl _
                            · have := (HB.out.2 hv).2.2 j h1 (by omega) h3
                              omega
                        · have hless' : decide (d + x < v) = false := by simpa using hless
                          go_wp2
                          go_roundg (m.length - (q + 1))
                          case measure => go_light; omega
                          case rel =>
                            go_light
                            refine ⟨q + 1, v, by omega, by omega, rfl, by go_num, rfl, hI.drewN _, by omega, by omega, Lib.hid ⟨fun e => absurd e hv, fun _ => ⟨hv00, ?_, fun j h1 h2 h3 => ?_⟩⟩⟩
                            · obtain ⟨j, h1, h2, h3⟩ := (HB.out.2 hv).2.1
                              exact ⟨j, h1, by omega, h3⟩
                            · by_cases ej : j = q
                              · subst ej; rw [← HC.out, ← Hd.out, ← Hx.out]; omega
                              · exact (HB.out.2 hv).2.2 j h1 (by omega) h3
                    · have hb2 : bits .and .i64 ((c : Int) / 2 ^ q) 1 = 0 := by rw [bit_at c q (by omega), if_neg hbq]
                      go_wp2
                      go_roundg (m.length - (q + 1))
                      case measure => go_light; omega
                      case rel =>
                        go_light
                        refine ⟨q + 1, v, by omega, by omega, rfl, by go_num, rfl, hI, hv0, hv1, Lib.hid ⟨fun e j h1 h2 => ?_, fun e => ⟨(HB.out.2 e).1, ?_, fun j h1 h2 h3 => ?_⟩⟩⟩
                        · by_cases ej : j = q
                          · subst ej; simpa using hbq
                          · exact HB.out.1 e j h1 (by omega)
                        · obtain ⟨j, h1, h2, h3⟩ := (HB.out.2 e).2.1
                          exact ⟨j, h1, by omega, h3⟩
                        · by_cases ej : j = q
                          · subst ej; exact absurd h3 hbq
                          · exact (HB.out.2 e).2.2 j h1 (by omega) h3
                  · obtain rfl : m.length = q := by omega
                    have hne : v ≠ -1 := fun e => by
                      obtain ⟨j, h1, h2, h3⟩ := some_bit ho hc0 (show c < 2 ^ m.length by have := HM.out; omega)
                      have := HB.out.1 e j h1 h2
                      rw [h3] at this; cases this
                    have hl : IsLeast (dOf m) m.length c r v := by
                      obtain ⟨_, ⟨j, h1, h2, h3, h4⟩, h5⟩ := HB.out.2 hne
                      refine least_step (dOf m) (fun k => c ^^^ 2 ^ k) (fun k => lv m (c ^^^ 2 ^ k) k) (fun k k1 k2 k3 => less_rm _ k3) (fun k k1 k2 k3 => ?_) ⟨j, ⟨h1, h2, h3⟩, h4⟩ h5
                      exact HL.out _ _ (andnot_all c (by omega) k (by omega) k3).2 k2 (rm_even ho k1) (rm_self k3)
                    have HV := Lib.hid (lv_of ho hbr' hl)
                    have hl2 := Lib.hid hl
                    clear hl
                    have g1 : wr.cell? ⟨w.heap.size, c, none⟩ = some (.slice (some ⟨w.heap.size + 1 + c, 0, none⟩) m.length m.length) := by simpa [top] using hI.top.cell hcM
                    have g4 : wr.cell? ⟨w.heap.size + 1 + c, r, none⟩ = some (.int .i64 0) := by simpa using hI.cur.cell hrn
                    have g5 : wr.frozen? ⟨w.heap.size + 1 + c, r, none⟩ = false := hI.cur.frozen r
                    go_wp2
                    go_roundg (m.length - (r + 1))
                    case measure => go_light; omega
                    case rel =>
                      go_light
                      refine ⟨r + 1, by omega, rfl, by go_num, ?_, Lib.hid (fun i hi h1 h2 => ?_)⟩
                      · rw [← HV.out]; exact inner_set hI
                      by_cases e : i = r
                      · subst e; rw [HV.out]; exact hl2.out
                      · exact HL2.out i (by omega) h1 h2
        · obtain rfl : m.length = r := by omega
          go_wp2
          go_roundg (M - (c + 1))
          case measure => go_light; omega
          case rel =>
            go_light
            refine ⟨c + 1, by omega, rfl, by go_num, inner_done hI, Lib.hid (fun s i hs hi h1 h2 => ?_)⟩
            by_cases e : s = c
            · subst e; exact HL2.out i hi h1 h2
            · exact HL.out s i (by omega) hi h1 h2
    · obtain rfl : M = c := by omega
      clear hmk3
      obtain ⟨wt, rfl⟩ : ∃ wt, wt = wr := ⟨_, rfl⟩
      have hw := Hw.out
      have hM4 : 4 ≤ M := by
        rw [HM.out]
        exact Nat.pow_le_pow_right (n := 2) (by omega) h2
      have g1 := hO.top.cell (i := M - 2) (by omega)
      rw [show top w.heap.size m.length M (M - 2) = .slice (some ⟨w.heap.size + 1 + (M - 2), 0, none⟩) m.length m.length by unfold top; rw [if_pos (by omega)]] at g1
      have g2 := (hO.done (M - 2) (by omega)).cell (i := 0) (by omega)
      have hFi : ((M : Int) - 2) < (M : Int) := by omega
      have hFi0 : 0 ≤ ((M : Int) - 2) := by omega
      have hmz : (0 : Int) < (m.length : Int) := by omega
      obtain ⟨all, hall⟩ : ∃ all, all = lv m (M - 2) 0 := ⟨_, rfl⟩
      rw [← hall] at g2
      have Hall := Lib.hid hall
      clear hall
      have HT := Lib.hid hO
      have Hwr := Lib.hid (show wt.Since wt.heap.size wt from World.Since.refl _ _)
      obtain ⟨i0, hi0, hz0, hz1, hz2⟩ := info_parts info_int
      have Hi0 := Lib.hid hi0
      have Hz0 := Lib.hid hz0
      have Hz1 := Lib.hid hz1
      have Hz2 := Lib.hid hz2
      clear hi0 hz0 hz1 hz2
      have hown0 := own_full wt #[.int .i64 0] 3 1 (by unfold maxLen; omega) rfl
      have hsz0 := hO.size
      rw [hsz0] at hown0
      have Hsz0 := Lib.hid hsz0
      clear hO
      go_wp2
      clear g1 g2 hsz0
      go_loopg [13, 15, 16] (M - 2) (fun g set way a wi => ∃ (S at' : Nat) (l : List Nat), S = g ∧ S < M ∧ set = .int .i64 S ∧ a = .int .i64 at' ∧ wt.Since wt.heap.size wi ∧ wi.ownsRow wt.heap.size 3 1 way l.length (l.map fun (x : Nat) => Value.int .i64 (x : Int)) ∧ Hid (RP m all S at' l))
      case atStart =>
        refine ⟨M - 2, 0, [0], rfl, by omega, by go_num, rfl, (World.Since.refl _ _).alloc (Nat.le_refl _) _, ?_, Lib.hid ?_⟩
        · rw [Hsz0.out]; exact hown0
        · rw [Hall.out, HM.out]; exact RP.start h2
      case round =>
        clear hown0 hFi hFi0
        have Hw2 := Lib.hid hw
        clear hw
        obtain ⟨S, at', l, rfl, hSM, rfl, rfl, hsi, hown, HP⟩ := hrel
        by_cases hS0 : S = 0
        · have hSb : ((S : Int) != 0) = false := by simp [hS0]
          have hP : RP m all 0 at' l := by rw [← hS0]; exact HP.out
          obtain ⟨hperm, hlong⟩ := hP.done h2
          go_wp2
          go_ret3
          have hlen := hperm.len
          refine ⟨since_join HT.out.since hsi, .inr ⟨t, u15, l, ?_, ?_, hperm, ?_, fun l' hl' => ?_⟩⟩
          · rw [hlong]; rfl
          · rw [hlen] at hown
            refine ⟨by simp [hlen], ?_⟩
            rcases hown.2 with ⟨h1, h2⟩ | ⟨g, cap, cur, h1, h2, h3⟩
            · exact .inl ⟨h1, h2⟩
            · exact .inr ⟨g, cap, cur, h1, by have := HT.out.size; omega, h3⟩
          · have := hP.head
            cases l with
            | nil => rfl
            | cons a l => simpa using this
          · rw [hlong, Hall.out]
            refine least_all (S := M - 2) (dOf m) h2 (fun k k1 k2 => by rw [HM.out]; exact full_bit k1 k2) (HL.out (M - 2) 0 (by omega) (by omega) ?_ ?_) hl'
            · rw [HM.out]; exact (RP.start h2).ev
            · rw [HM.out]; exact (RP.start h2).at_bit
        · have hSb : ((S : Int) != 0) = true := by simp; omega
          have hP := HP.out
          have hatn := hP.at_lt
          have hSbd := pow_bd hn
          have hSn : S < 2 ^ m.length := by have := HM.out; omega
          obtain ⟨k0, k1, k2, k3, k4⟩ := hP.via hn hSn hS0 (fun s i hs => HL.out s i (by have := HM.out; omega))
          have K4 := Lib.hid k4
          have K3 := Lib.hid k3
          clear hP k4 k3
          go_wp2
          go_loopg [13, 15, 16, 17] (k0 - 1) (fun g set way a k wj => ∃ q : Nat, 1 ≤ q ∧ q ≤ k0 ∧ g = k0 - q ∧ k = .int .i64 q ∧ set = .int .i64 S ∧ way = u15 ∧ a = .int .i64 at' ∧ wt.Since wt.heap.size wj ∧ wj.ownsRow wt.heap.size 3 1 u15 l.length (l.map fun (x : Nat) => Value.int .i64 (x : Int)))
          case atStart => exact ⟨1, Nat.le_refl _, k1, rfl, rfl, rfl, rfl, rfl, hsi, hown⟩
          case round =>
            clear hsi hown
            obtain ⟨q, hq1, hqk, rfl, rfl, rfl, rfl, rfl, hsi, hown⟩ := hrel
            have hqn : q < m.length := by omega
            have hqz : (q : Int) < (m.length : Int) := by omega
            by_cases hbq : S.testBit q = true
            · have hb2 : bits .and .i64 ((S : Int) / 2 ^ q) 1 = 1 := by rw [bit_at S q (by omega), if_pos hbq]
              have hnot := not_at (show S < 128 by omega) (show q < 7 by omega) hbq
              have hlt := (andnot_all S (by omega) q (by omega) hbq).2
              have hev := rm_even HP.out.ev hq1
              have hbd1 := least_bd t (HL.out (S ^^^ 2 ^ q) q (by omega) hqn hev (rm_self hbq))
              have hbd2 := least_bd t (HL.out S at' hSM hatn HP.out.ev HP.out.at_bit)
              have tb : w.heap.size + 1 + M = wt.heap.size := HT.out.size.symm
              have g1 := HT.out.top.cell (i := S ^^^ 2 ^ q) (by omega)
              rw [show top w.heap.size m.length M (S ^^^ 2 ^ q) = .slice (some ⟨w.heap.size + 1 + (S ^^^ 2 ^ q), 0, none⟩) m.length m.length by unfold top; rw [if_pos (by omega)], ← hsi.cell (show w.heap.size < wt.heap.size by omega)] at g1
              have g2 := (HT.out.done (S ^^^ 2 ^ q) (by omega)).cell hqn
              rw [← hsi.cell (show w.heap.size + 1 + (S ^^^ 2 ^ q) < wt.heap.size by omega)] at g2
              have g3 := HT.out.top.cell (i := S) (by omega)
              rw [show top w.heap.size m.length M S = .slice (some ⟨w.heap.size + 1 + S, 0, none⟩) m.length m.length by unfold top; rw [if_pos (by omega)], ← hsi.cell (show w.heap.size < wt.heap.size by omega)] at g3
              have g4 := (HT.out.done S (by omega)).cell hatn
              rw [← hsi.cell (show w.heap.size + 1 + S < wt.heap.size by omega)] at g4
              have hm2 := (h.since HT.out.since).since hsi
              obtain ⟨b, off, A1, c1, rfl, hb, ga, hga⟩ := t.at_ hm2 hatn
              obtain ⟨b1, off1, rfl, hb1', gb⟩ := hga q hqn
              have hd := dOf_bd t at' q
              have hltz : ((S ^^^ 2 ^ q : Nat) : Int) < (M : Int) := by omega
              have hSz : (S : Int) < (M : Int) := by omega
              have haz : (at' : Int) < (m.length : Int) := by omega
              obtain ⟨x, hx⟩ : ∃ x, x = lv m (S ^^^ 2 ^ q) q := ⟨_, rfl⟩
              obtain ⟨y, hy⟩ : ∃ y, y = lv m S at' := ⟨_, rfl⟩
              obtain ⟨d, hdd⟩ : ∃ d, d = dOf m at' q := ⟨_, rfl⟩
              obtain ⟨S', hS'⟩ : ∃ S', S' = S ^^^ 2 ^ q := ⟨_, rfl⟩
              rw [← hx] at g2 hbd1
              rw [← hy] at g4 hbd2
              rw [← hdd] at gb hd
              rw [← hS'] at hnot hlt g1 g2 hltz hx
              have Hx := Lib.hid hx
              have Hy := Lib.hid hy
              have Hd := Lib.hid hdd
              have HS := Lib.hid hS'
              clear hx hy hdd hS' hga hev tb
              by_cases heq : d + x = y
              · have heqb : (d + x == y) = true := by simpa using heq
                have hown7 : ∀ n, ((wr.drewN n).alloc (.cells #[.int .i64 (q : Nat)] 3)).ownsRow wt.heap.size 3 1 u15 l.length (l.map fun (x : Nat) => Value.int .i64 (x : Int)) := fun n => World.ownsRow.alloc (show (wr.drewN n).ownsRow _ _ _ _ _ _ from hown) _
                have hs7 : ∀ n, wt.Since wt.heap.size ((wr.drewN n).alloc (.cells #[.int .i64 (q : Nat)] 3)) := fun n => (since_drewN hsi n).alloc hsi.size _
                have Ho7 := Lib.hid hown7
                have Hs7 := Lib.hid hs7
                have hlle := HP.out.len_le
                clear hown hown7 hs7
                go_wp2
                go_quiet (fail)
                go_wp2
                go_quiet (fail)
                go_wp2_with (at_builtin; refine wpList_append_own _ rfl _ _ 23 rfl wt.heap.size 3 i0 (.int .i64 0) 1 8 Try.underlying23 Hi0.out Hz0.out Hz1.out Hz2.out rfl (by decide) _ _ _ rfl (Ho7.out _) ⟨wr.heap.size, 0, none⟩ 1 1 [.int .i64 (q : Nat)] rfl rfl (one_new _ _ _) (by intro u hu; simp at hu; subst hu; rfl) (by unfold maxLen; omega) (by omega) (Hs7.out _).size ?_; intro v8 w8 hown8 hg8 _)
                have hs8 : wt.Since wt.heap.size w8 := own_since (Hs7.out _) (Ho7.out _) hg8 (Hs7.out _).size
                go_wp2
                go_roundg S'
                case measure => go_light; omega
                case rel =>
                  go_light
                  refine ⟨S', q, l ++ [q], rfl, by omega, rfl, rfl, hs8, by simpa using hown8, Lib.hid ?_⟩
                  rw [HS.out]
                  refine HP.out.step hq1 hqn hbq ?_
                  rw [← HS.out, ← Hx.out, ← Hy.out, ← Hd.out]; exact heq
              · have heqb : (d + x == y) = false := by simpa using heq
                go_wp2
                go_quiet (fail)
                go_wp2
                have hqk' : q ≠ k0 := by
                  rintro rfl
                  apply heq
                  rw [Hx.out, Hy.out, Hd.out, HS.out]; exact K4.out
                go_roundg (k0 - (q + 1))
                case measure => go_light; omega
                case rel =>
                  go_light
                  exact ⟨q + 1, by omega, by omega, rfl, by go_num, rfl, rfl, rfl, since_drewN hsi _, hown⟩
            · have hb2 : bits .and .i64 ((S : Int) / 2 ^ q) 1 = 0 := by rw [bit_at S q (by omega), if_neg hbq]
              have hqk' : q ≠ k0 := by
                rintro rfl; exact hbq K3.out
              go_wp2
              go_quiet (fail)
              go_wp2
              go_roundg (k0 - (q + 1))
              case measure => go_light; omega
              case rel =>
                go_light
                exact ⟨q + 1, by omega, by omega, rfl, by go_num, rfl, rfl, rfl, since_drewN hsi _, hown⟩
end Go.Proofs.Ytlopcegpolpndaa
