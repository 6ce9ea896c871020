/- A journal of lines, each with its number and its check: what one reads out of a beginning of it, or out of it with one byte turned. Plain. -/
import Derived.Lib.AtoiTie
import Derived.Lib.ItoaNum
import Derived.Lib.SplitLaws
namespace Go.Proofs.YtgahgdgpncnffaaDoor.DepM
open Go.Lib

abbrev Bs := List UInt8
abbrev Mv := Bs × Int

/-! words -/
def words : Bs → List Bs
  | [] => [[]]
  | c :: l => if c = 32 then [] :: words l else match words l with
    | [] => [[c]]
    | h :: t => (c :: h) :: t
theorem words_ne : ∀ l, words l ≠ []
  | [] => by simp [words]
  | c :: l => by
    unfold words
    split
    · simp
    · split <;> simp
theorem words_one : ∀ {a : Bs}, (32 : UInt8) ∉ a → words a = [a]
  | [], _ => rfl
  | c :: l, h => by
    simp at h
    have := words_one (a := l) h.2
    unfold words
    rw [if_neg (fun e => h.1 e.symm), this]
theorem words_cons : ∀ {a : Bs} (b : Bs), (32 : UInt8) ∉ a → words (a ++ 32 :: b) = a :: words b
  | [], b, _ => by
    show words (32 :: b) = _
    rw [words, if_pos rfl]
  | c :: l, b, h => by
    simp at h
    have := words_cons (a := l) b h.2
    show words (c :: (l ++ 32 :: b)) = _
    rw [words, if_neg (fun e => h.1 e.symm), this]

/-! numerals -/
def dig (b : UInt8) : Prop := 48 ≤ b.toNat ∧ b.toNat ≤ 57
theorem digit_nat (d : Nat) (h : d < 10) : (UInt8.ofNat (48 + d)).toNat = 48 + d := by simp; omega
theorem decDigits_dig (u : Nat) : ∀ b ∈ decDigits u, dig b := by
  induction u using Nat.strongRecOn with
  | _ u ih =>
    intro b hb
    rw [decDigits] at hb
    split at hb
    · rename_i h
      simp only [List.mem_singleton] at hb; subst hb
      unfold dig; rw [digit_nat u h]; omega
    · rename_i h
      rcases List.mem_append.1 hb with hb | hb
      · exact ih (u / 10) (by omega) b hb
      · simp only [List.mem_singleton] at hb; subst hb
        unfold dig; rw [digit_nat _ (by omega)]; omega
theorem decFrom_append : ∀ (a b : Bs) (acc : Nat), decFrom acc (a ++ b) = (decFrom acc a).bind (fun x => decFrom x b)
  | [], b, acc => rfl
  | c :: a, b, acc => by
    simp only [List.cons_append, decFrom]
    cases digitVal c with
    | none => rfl
    | some d => exact decFrom_append a b _
theorem decFrom_one (acc d : Nat) (h : d < 10) : decFrom acc [UInt8.ofNat (48 + d)] = some (acc * 10 + d) := by
  simp only [decFrom, digitVal, digit_nat d h]
  rw [if_pos (by omega)]
  show some (acc * 10 + (48 + d - 48)) = _
  congr 1; omega
theorem decFrom_dec (u : Nat) : decFrom 0 (decDigits u) = some u := by
  induction u using Nat.strongRecOn with
  | _ u ih =>
    rw [decDigits]
    split
    · rename_i h
      rw [decFrom_one 0 u h]; simp
    · rename_i h
      rw [decFrom_append, ih (u / 10) (by omega)]
      simp only [Option.bind_some]
      rw [decFrom_one _ _ (by omega)]
      congr 1; omega
theorem decDigits_ne (u : Nat) : decDigits u ≠ [] := by
  rw [decDigits]; split <;> simp
theorem decNat_dec (u : Nat) : decNat (decDigits u) = some u := by
  unfold decNat
  rw [if_neg (by simp [decDigits_ne]), decFrom_dec]
theorem dec_head {u : Nat} {b : UInt8} {r : Bs} (h : decDigits u = b :: r) : dig b := decDigits_dig u b (by rw [h]; exact List.mem_cons_self ..)
theorem atoi_itoa (n : Int) : atoi (itoa n) = some n := by
  unfold itoa
  split
  · rename_i h
    simp only [atoi]
    rw [if_pos (by rfl), decNat_dec]
    simp only [Option.map_some]
    congr 1; omega
  · rename_i h
    cases hd : decDigits n.toNat with
    | nil => exact absurd hd (decDigits_ne _)
    | cons b r =>
      have hb := dec_head hd
      unfold dig at hb
      have h1 : (b == 45) = false := by
        rw [beq_eq_false_iff_ne]; intro e; subst e; simp at hb
      have h2 : (b == 43) = false := by
        rw [beq_eq_false_iff_ne]; intro e; subst e; simp at hb
      simp only [atoi, h1, h2]
      rw [← hd, decNat_dec]
      simp only [Bool.false_eq_true, if_false, Option.map_some]
      congr 1; omega
theorem itoa_inj {a b : Int} (h : itoa a = itoa b) : a = b := by
  have h1 := atoi_itoa a
  rw [h, atoi_itoa b] at h1
  injection h1 with h1
  exact h1.symm
theorem itoa_mem {n : Int} {b : UInt8} (h : b ∈ itoa n) : b.toNat = 45 ∨ dig b := by
  unfold itoa at h
  split at h
  · rcases List.mem_cons.1 h with rfl | h
    · exact .inl rfl
    · exact .inr (decDigits_dig _ b h)
  · exact .inr (decDigits_dig _ b h)
theorem itoa_no {n : Int} {b : UInt8} (hb : b = 32 ∨ b = 10) : b ∉ itoa n := fun h => by
  have := itoa_mem h
  unfold dig at this
  rcases hb with rfl | rfl <;> simp at this
theorem itoa_len {n : Int} (h0 : -1000000 ≤ n) (h1 : n ≤ 1000000) : (itoa n).length ≤ 8 := by
  have key : ∀ u : Nat, u ≤ 1000000 → (decDigits u).length ≤ 7 := fun u hu => by
    rw [decDigits_eq, List.length_map, List.length_range]
    by_cases hz : u = 0
    · subst hz; rw [nDigits_small (by omega)]; omega
    · by_cases a1 : u < 10
      · rw [nDigits_small a1]; omega
      rw [nDigits_big a1]
      by_cases a2 : u / 10 < 10
      · rw [nDigits_small a2]; omega
      rw [nDigits_big a2]
      by_cases a3 : u / 10 / 10 < 10
      · rw [nDigits_small a3]; omega
      rw [nDigits_big a3]
      by_cases a4 : u / 10 / 10 / 10 < 10
      · rw [nDigits_small a4]; omega
      rw [nDigits_big a4]
      by_cases a5 : u / 10 / 10 / 10 / 10 < 10
      · rw [nDigits_small a5]; omega
      rw [nDigits_big a5]
      by_cases a6 : u / 10 / 10 / 10 / 10 / 10 < 10
      · rw [nDigits_small a6]; omega
      rw [nDigits_big a6, nDigits_small (by omega)]; omega
  unfold itoa
  split
  · rw [List.length_cons]; have := key n.natAbs (by omega); omega
  · have := key n.toNat (by omega); omega

/-! a line -/
def cutset : Bs := [97, 98, 99, 100, 101, 102, 103, 104, 105, 106, 107, 108, 109, 110, 111, 112, 113, 114, 115, 116, 117, 118, 119, 120, 121, 122, 48, 49, 50, 51, 52, 53, 54, 55, 56, 57]
def nameOk (s : Bs) : Prop := s ≠ [] ∧ s.length ≤ 12 ∧ ∀ b ∈ s, b ∈ cutset
instance (s : Bs) : Decidable (nameOk s) := by unfold nameOk; infer_instance
theorem name_no {s : Bs} (h : nameOk s) {b : UInt8} (hb : b = 32 ∨ b = 10) : b ∉ s := fun hm => by
  have := h.2.2 b hm
  rcases hb with rfl | rfl <;> revert this <;> decide
def stp (c : Nat) (b : UInt8) : Nat := (31 * c + b.toNat) % 9973
def chk (s : Bs) : Nat := s.foldl stp 7
def pre (n : Nat) (m : Mv) : Bs := itoa n ++ 32 :: (m.1 ++ 32 :: itoa m.2)
def body (n : Nat) (m : Mv) : Bs := pre n m ++ 32 :: itoa (chk (pre n m))
def lineB (n : Nat) (m : Mv) : Bs := body n m ++ [10]
theorem body_no10 {n : Nat} {m : Mv} (h : nameOk m.1) : (10 : UInt8) ∉ body n m := by
  have h1 := itoa_no (n := (n : Int)) (b := 10) (.inr rfl)
  have h2 := itoa_no (n := m.2) (b := 10) (.inr rfl)
  have h3 := itoa_no (n := ((chk (pre n m) : Nat) : Int)) (b := 10) (.inr rfl)
  have h4 := name_no h (b := 10) (.inr rfl)
  unfold body pre at *
  simp only [List.mem_append, List.mem_cons, not_or]
  exact ⟨⟨h1, by decide, h4, by decide, h2⟩, by decide, h3⟩
theorem count0 {l : Bs} (h : (32 : UInt8) ∉ l) : l.count 32 = 0 := List.count_eq_zero.2 h
theorem pre_count {n : Nat} {m : Mv} (h : nameOk m.1) : (pre n m).count 32 = 2 := by
  unfold pre
  rw [List.count_append, List.count_cons_self, List.count_append, List.count_cons_self, count0 (itoa_no (.inl rfl)), count0 (name_no h (.inl rfl)), count0 (itoa_no (.inl rfl))]
theorem body_count {n : Nat} {m : Mv} (h : nameOk m.1) : (body n m).count 32 = 3 := by
  unfold body
  rw [List.count_append, List.count_cons_self, pre_count h, count0 (itoa_no (.inl rfl))]
/-- what a line says, its end taken off -/
def parse (l : Bs) : Option Mv := match words l with
  | [_, a, b, _] => match atoiAll b with
    | .ok v => some (a, v)
    | _ => none
  | _ => none
def muchOk (v : Int) : Prop := v ≠ 0 ∧ -1000000 ≤ v ∧ v ≤ 1000000
instance (v : Int) : Decidable (muchOk v) := by unfold muchOk; infer_instance
theorem words_body {n : Nat} {m : Mv} (h : nameOk m.1) : words (body n m) = [itoa n, m.1, itoa m.2, itoa (chk (pre n m))] := by
  unfold body
  rw [show pre n m ++ 32 :: itoa (chk (pre n m)) = itoa n ++ 32 :: (m.1 ++ 32 :: (itoa m.2 ++ 32 :: itoa (chk (pre n m)))) by
    generalize itoa ((chk (pre n m) : Nat) : Int) = x
    unfold pre
    simp]
  rw [words_cons _ (itoa_no (.inl rfl)), words_cons _ (name_no h (.inl rfl)), words_cons _ (itoa_no (.inl rfl)), words_one (itoa_no (.inl rfl))]
theorem parse_body {n : Nat} {m : Mv} (h : nameOk m.1) (hm : muchOk m.2) : parse (body n m) = some m := by
  unfold parse
  rw [words_body h]
  simp only
  rw [atoiAll_short _ (by have := itoa_len hm.2.1 hm.2.2; omega), atoi_itoa]
  rfl
theorem line_inj {n : Nat} {m m' : Mv} (h : nameOk m.1) (hm : muchOk m.2) (h' : nameOk m'.1) (hm' : muchOk m'.2) (e : body n m = body n m') : m = m' := by
  have h1 := parse_body (n := n) h hm
  rw [e, parse_body h' hm'] at h1
  injection h1 with h1
  exact h1.symm
theorem cut_at {x : UInt8} : ∀ {a b c d : Bs}, a ++ x :: b = c ++ x :: d → x ∉ a → x ∉ c → a = c ∧ b = d
  | [], b, [], d, h, _, _ => by injection h with _ h; exact ⟨rfl, h⟩
  | [], b, y :: c, d, h, _, hc => by injection h with h1 _; exact absurd (by rw [h1]; exact List.mem_cons_self ..) hc
  | y :: a, b, [], d, h, ha, _ => by injection h with h1 _; exact absurd (by rw [← h1]; exact List.mem_cons_self ..) ha
  | y :: a, b, z :: c, d, h, ha, hc => by
    injection h with h1 h2
    subst h1
    obtain ⟨e1, e2⟩ := cut_at (a := a) (c := c) h2 (fun hm => ha (List.mem_cons_of_mem _ hm)) (fun hm => hc (List.mem_cons_of_mem _ hm))
    exact ⟨by rw [e1], e2⟩
theorem cut_last {x : UInt8} {a b c d : Bs} (h : a ++ x :: b = c ++ x :: d) (hb : x ∉ b) (hd : x ∉ d) : a = c ∧ b = d := by
  have h2 := congrArg List.reverse h
  simp only [List.reverse_append, List.reverse_cons, List.append_assoc, List.singleton_append] at h2
  obtain ⟨e1, e2⟩ := cut_at h2 (by simpa using hb) (by simpa using hd)
  exact ⟨List.reverse_inj.1 e2, List.reverse_inj.1 e1⟩

/-! the check -/
theorem stp_lt (c : Nat) (b : UInt8) : stp c b < 9973 := Nat.mod_lt _ (by omega)
theorem stp_c {c d : Nat} (b : UInt8) (hc : c < 9973) (hd : d < 9973) (h : c ≠ d) : stp c b ≠ stp d b := fun e => h (by
  unfold stp at e
  have h1 := Nat.div_add_mod (31 * c + b.toNat) 9973
  have h2 := Nat.div_add_mod (31 * d + b.toNat) 9973
  rw [e] at h1
  generalize (31 * d + b.toNat) % 9973 = r at *
  generalize (31 * c + b.toNat) / 9973 = q1 at *
  generalize (31 * d + b.toNat) / 9973 = q2 at *
  omega)
theorem stp_b {c : Nat} {a b : UInt8} (h : a ≠ b) : stp c a ≠ stp c b := fun e => h (by
  unfold stp at e
  have ha := a.toNat_lt
  have hb := b.toNat_lt
  have h1 := Nat.div_add_mod (31 * c + a.toNat) 9973
  have h2 := Nat.div_add_mod (31 * c + b.toNat) 9973
  rw [e] at h1
  generalize (31 * c + b.toNat) % 9973 = r at *
  generalize (31 * c + a.toNat) / 9973 = q1 at *
  generalize (31 * c + b.toNat) / 9973 = q2 at *
  exact UInt8.toNat_inj.1 (by omega))
theorem fold_c : ∀ (l : Bs) {c d : Nat}, c < 9973 → d < 9973 → c ≠ d → l.foldl stp c ≠ l.foldl stp d
  | [], _, _, _, _, h => h
  | b :: l, _, _, hc, hd, h => fold_c l (stp_lt _ b) (stp_lt _ b) (stp_c b hc hd h)
theorem chk_turn (a b : Bs) {x y : UInt8} (h : x ≠ y) : chk (a ++ x :: b) ≠ chk (a ++ y :: b) := by
  unfold chk
  rw [List.foldl_append, List.foldl_append]
  exact fold_c b (stp_lt _ _) (stp_lt _ _) (stp_b h)
theorem chk_lt (s : Bs) : chk s < 9973 := by
  unfold chk
  by_cases h : s = []
  · subst h; decide
  · obtain ⟨a, b, rfl⟩ : ∃ a b, s = a ++ [b] := ⟨s.dropLast, s.getLast h, (List.dropLast_concat_getLast h).symm⟩
    rw [List.foldl_append]
    exact stp_lt _ _

theorem line_len {n : Nat} {m : Mv} (h : nameOk m.1) (hm : muchOk m.2) (hn : n ≤ 1000) : (lineB n m).length ≤ 40 ∧ 1 ≤ (lineB n m).length := by
  have h1 := itoa_len (n := (n : Int)) (by omega) (by omega)
  have h2 := h.2.1
  have h3 := itoa_len hm.2.1 hm.2.2
  have h4 := itoa_len (n := ((chk (pre n m) : Nat) : Int)) (by omega) (by have := chk_lt (pre n m); omega)
  have h5 : (pre n m).length ≤ 30 := by
    unfold pre
    simp only [List.length_append, List.length_cons]
    omega
  unfold lineB body
  simp only [List.length_append, List.length_cons, List.length_nil]
  omega

/-! a journal -/
def Jf : Nat → List Mv → Bs
  | _, [] => []
  | n, m :: r => lineB n m ++ Jf (n + 1) r
def J (acc : List Mv) : Bs := Jf 0 acc
theorem Jf_append : ∀ (n : Nat) (a b : List Mv), Jf n (a ++ b) = Jf n a ++ Jf (n + a.length) b
  | n, [], b => by simp [Jf]
  | n, m :: a, b => by
    show lineB n m ++ Jf (n + 1) (a ++ b) = lineB n m ++ Jf (n + 1) a ++ Jf (n + (a.length + 1)) b
    rw [Jf_append (n + 1) a b, List.append_assoc, show n + 1 + a.length = n + (a.length + 1) by omega]
theorem J_snoc (a : List Mv) (m : Mv) : J (a ++ [m]) = J a ++ lineB a.length m := by
  unfold J
  rw [Jf_append]
  show _ ++ (lineB _ m ++ []) = _
  rw [List.append_nil, Nat.zero_add]
/-- how much of a thing is there -/
def hv (acc : List Mv) (t : Bs) : Int := match acc with
  | [] => 0
  | m :: r => (if m.1 = t then m.2 else 0) + hv r t
theorem hv_append : ∀ (a b : List Mv) (t : Bs), hv (a ++ b) t = hv a t + hv b t
  | [], b, t => by simp [hv]
  | m :: a, b, t => by
    show _ + hv (a ++ b) t = _ + hv a t + hv b t
    rw [hv_append a b t]; omega
theorem Jf_len : ∀ {a : List Mv} {n : Nat}, (∀ m ∈ a, nameOk m.1 ∧ muchOk m.2) → n + a.length ≤ 1000 → (Jf n a).length ≤ 40 * a.length
  | [], n, _, _ => by simp [Jf]
  | m :: a, n, h, hn => by
    have h1 := line_len (n := n) (h m (List.mem_cons_self ..)).1 (h m (List.mem_cons_self ..)).2 (by simp at hn; omega)
    have h2 := Jf_len (a := a) (n := n + 1) (fun x hx => h x (List.mem_cons_of_mem _ hx)) (by simp at hn; omega)
    simp only [Jf, List.length_append, List.length_cons]
    omega
theorem hv_bd : ∀ {a : List Mv} (t : Bs), (∀ m ∈ a, muchOk m.2) → -1000000 * (a.length : Int) ≤ hv a t ∧ hv a t ≤ 1000000 * (a.length : Int)
  | [], t, _ => by simp [hv]
  | m :: a, t, h => by
    have h1 := h m (List.mem_cons_self ..)
    have h2 := hv_bd (a := a) t (fun x hx => h x (List.mem_cons_of_mem _ hx))
    unfold muchOk at h1
    simp only [hv, List.length_cons]
    split <;> omega
def may (acc : List Mv) (m : Mv) : Prop := nameOk m.1 ∧ muchOk m.2 ∧ 0 ≤ hv acc m.1 + m.2 ∧ acc.length ≠ 500
instance (acc : List Mv) (m : Mv) : Decidable (may acc m) := by unfold may; infer_instance
def Valid (acc : List Mv) : Prop := ∀ k m, acc[k]? = some m → may (acc.take k) m
theorem Valid.nil : Valid [] := fun k m h => by simp at h
theorem Valid.snoc {acc : List Mv} {m : Mv} (h : Valid acc) (hm : may acc m) : Valid (acc ++ [m]) := fun k x hx => by
  by_cases hk : k < acc.length
  · rw [List.getElem?_append_left hk] at hx
    rw [List.take_append_of_le_length (by omega)]
    exact h k x hx
  · have hl := (List.getElem?_eq_some_iff.1 hx).1
    simp at hl
    obtain rfl : k = acc.length := by omega
    simp at hx
    subst hx
    rw [List.take_left]
    exact hm
theorem Valid.all {acc : List Mv} (h : Valid acc) : ∀ m ∈ acc, nameOk m.1 ∧ muchOk m.2 := fun m hm => by
  obtain ⟨k, hk⟩ := List.getElem?_of_mem hm
  exact ⟨(h k m hk).1, (h k m hk).2.1⟩
theorem Valid.take {acc : List Mv} (h : Valid acc) (n : Nat) : Valid (acc.take n) := fun k m hk => by
  rw [List.getElem?_take] at hk
  split at hk
  · rename_i hlt
    have := h k m hk
    rw [List.take_take, Nat.min_eq_left (by omega)]
    exact this
  · cases hk
/-- what Open makes of bytes: all that goes -/
structure Opened (b : Bs) (acc : List Mv) (r : Bs) : Prop where
  valid : Valid acc
  eq : b = J acc ++ r
  stop : ∀ l r', r = l ++ 10 :: r' → (10 : UInt8) ∉ l → ∀ m, parse l = some m → lineB acc.length m = l ++ [10] → ¬ may acc m
theorem line_cut {n : Nat} {m m' : Mv} {x y : Bs} (h : nameOk m.1 ∧ muchOk m.2) (h' : nameOk m'.1 ∧ muchOk m'.2) (e : lineB n m ++ x = lineB n m' ++ y) : m = m' ∧ x = y := by
  unfold lineB at e
  simp only [List.append_assoc, List.singleton_append] at e
  obtain ⟨e1, e2⟩ := cut_at e (body_no10 h.1) (body_no10 h'.1)
  exact ⟨line_inj h.1 h.2 h'.1 h'.2 e1, e2⟩
/-- two journals, one of which begins the other's bytes -/
theorem journals : ∀ {a b : List Mv} {n : Nat} {x y : Bs}, (∀ m ∈ a, nameOk m.1 ∧ muchOk m.2) → (∀ m ∈ b, nameOk m.1 ∧ muchOk m.2) → Jf n a ++ x = Jf n b ++ y →
    (∃ c, b = a ++ c ∧ x = Jf (n + a.length) c ++ y) ∨ (∃ m c, a = b ++ m :: c ∧ y = Jf (n + b.length) (m :: c) ++ x)
  | [], b, n, x, y, _, _, e => .inl ⟨b, rfl, by simpa [Jf] using e⟩
  | m :: a, [], n, x, y, _, _, e => .inr ⟨m, a, rfl, by simpa [Jf] using e.symm⟩
  | m :: a, m' :: b, n, x, y, ha, hb, e => by
    simp only [Jf, List.append_assoc] at e
    obtain ⟨rfl, e2⟩ := line_cut (ha m (List.mem_cons_self ..)) (hb m' (List.mem_cons_self ..)) e
    rcases journals (fun z hz => ha z (List.mem_cons_of_mem _ hz)) (fun z hz => hb z (List.mem_cons_of_mem _ hz)) e2 with ⟨c, h1, h2⟩ | ⟨p, c, h1, h2⟩
    · exact .inl ⟨c, by rw [h1]; rfl, by rw [h2, List.length_cons, show n + 1 + a.length = n + (a.length + 1) by omega]⟩
    · exact .inr ⟨p, c, by rw [h1]; rfl, by rw [h2, List.length_cons, show n + 1 + b.length = n + (b.length + 1) by omega]⟩
/-- of a beginning of a journal all whole lines are read -/
theorem crash {acc acc' : List Mv} {r s : Bs} (h : Valid acc) {b : Bs} (hb : J acc = b ++ s) (ho : Opened b acc' r) : (∃ c, acc = acc' ++ c ∧ (10 : UInt8) ∉ r ∧ r ++ s = Jf acc'.length c) := by
  have e : Jf 0 acc' ++ (r ++ s) = Jf 0 acc ++ [] := by
    rw [List.append_nil, ← List.append_assoc]
    show J acc' ++ r ++ s = J acc
    rw [← ho.eq, hb]
  rcases journals ho.valid.all h.all e with ⟨c, h1, h2⟩ | ⟨m, c, h1, h2⟩
  · rw [List.append_nil, Nat.zero_add] at h2
    refine ⟨c, h1, fun h10 => ?_, h2⟩
    obtain ⟨l, r', rfl, hl⟩ := List.eq_append_cons_of_mem h10
    match c, h1, h2 with
    | [], _, h2 => simp [Jf] at h2
    | m :: t, h1, h2 =>
      have hm := h acc'.length m (by rw [h1]; simp)
      rw [h1, List.take_left] at hm
      have e3 : l ++ 10 :: (r' ++ s) = body acc'.length m ++ 10 :: Jf (acc'.length + 1) t := by
        have := h2
        simp only [Jf, lineB, List.append_assoc, List.cons_append, List.nil_append] at this
        exact this
      obtain ⟨rfl, _⟩ := cut_at e3 hl (body_no10 hm.1)
      exact ho.stop _ _ rfl hl m (parse_body hm.1 hm.2.1) rfl hm
  · exact absurd (congrArg List.length h2) (by simp [Jf, lineB])
/-- of the whole all is read -/
theorem whole {acc acc' : List Mv} {r : Bs} (h : Valid acc) (ho : Opened (J acc) acc' r) : acc' = acc ∧ r = [] := by
  obtain ⟨c, h1, h2, h3⟩ := crash (s := []) h (by simp) ho
  rw [List.append_nil] at h3
  match c, h1, h3 with
  | [], h1, h3 => exact ⟨by rw [h1, List.append_nil], h3⟩
  | m :: t, h1, h3 =>
    exact absurd (by rw [h3]; simp [Jf, lineB]) h2
/-- a line with one byte turned is no line -/
theorem damaged {n : Nat} {m m' : Mv} (h : nameOk m.1) (h' : nameOk m'.1) {a2 : List Mv} (h2 : ∀ x ∈ a2, nameOk x.1 ∧ muchOk x.2) {x : UInt8} {u v z : Bs} {y : UInt8} (e : lineB n m = u ++ x :: v) (hxy : y ≠ x)
    (e2 : u ++ y :: v ++ Jf (n + 1) a2 = lineB n m' ++ z) : False := by
  have n1 := body_no10 (n := n) h
  have n2 := body_no10 (n := n) h'
  have c1 := body_count (n := n) h
  have c2 := body_count (n := n) h'
  by_cases hv : v = []
  · -- the end of the line was turned
    subst hv
    unfold lineB at e
    obtain ⟨e3, e4⟩ := List.append_inj' e rfl
    injection e4 with e4 _
    subst e3 e4
    match a2, h2, e2 with
    | [], _, e2 =>
      have : (10 : UInt8) ∈ body n m ++ [y] ++ Jf (n + 1) [] := by rw [e2]; simp [lineB]
      simp [Jf] at this
      rcases this with h | h
      · exact n1 h
      · exact hxy h.symm
    | p :: t, h2, e2 =>
      have hp := (h2 p (List.mem_cons_self ..)).1
      have e5 : (body n m ++ y :: body (n + 1) p) ++ 10 :: Jf (n + 1 + 1) t = body n m' ++ 10 :: z := by
        have := e2
        simp only [Jf, lineB, List.append_assoc, List.cons_append, List.nil_append] at this ⊢
        exact this
      obtain ⟨e6, _⟩ := cut_at e5 (by
        simp only [List.mem_append, List.mem_cons, not_or]
        exact ⟨n1, fun e => hxy e.symm, body_no10 hp⟩) n2
      have := congrArg (List.count 32) e6
      rw [List.count_append, c1, c2, List.count_cons, body_count hp] at this
      omega
  · obtain ⟨v', hv'⟩ : ∃ v', v = v' ++ [10] := by
      refine ⟨v.dropLast, ?_⟩
      have h3 : v.getLast hv = 10 := by
        have h4 := congrArg (fun l => l.getLast?) e
        simp only [lineB, List.getLast?_append, List.getLast?_singleton, Option.some_or] at h4
        rw [List.getLast?_eq_some_getLast (l := x :: v) (by simp), List.getLast_cons hv] at h4
        simp at h4
        exact h4.symm
      rw [← h3, List.dropLast_concat_getLast]
    subst hv'
    have e3 : body n m = u ++ x :: v' := by
      have : body n m ++ [10] = (u ++ x :: v') ++ [10] := by rw [List.append_assoc]; exact e
      exact List.append_cancel_right this
    have hu10 : (10 : UInt8) ∉ u ∧ x ≠ 10 ∧ (10 : UInt8) ∉ v' := by
      rw [e3] at n1
      simp only [List.mem_append, List.mem_cons, not_or] at n1
      exact ⟨n1.1, fun e => n1.2.1 e.symm, n1.2.2⟩
    by_cases hy : y = 10
    · -- the line was cut in two
      subst hy
      have e5 : u ++ 10 :: (v' ++ [10] ++ Jf (n + 1) a2) = body n m' ++ 10 :: z := by
        have := e2
        simp only [lineB, List.append_assoc, List.cons_append, List.nil_append] at this ⊢
        exact this
      obtain ⟨rfl, _⟩ := cut_at e5 hu10.1 n2
      have c3 := congrArg (List.count 32) e3
      rw [List.count_append, c1, c2] at c3
      have c4 : (x :: v').count 32 = 0 := by omega
      have c5 : (32 : UInt8) ∉ x :: v' := List.count_eq_zero.1 c4
      unfold body at e3
      have e6 : pre n m ++ 32 :: itoa (chk (pre n m)) = pre n m' ++ 32 :: (itoa (chk (pre n m')) ++ x :: v') := by rw [e3]; simp
      obtain ⟨e7, e8⟩ := cut_last e6 (itoa_no (.inl rfl)) (by
        rw [List.mem_append, not_or]
        exact ⟨itoa_no (.inl rfl), c5⟩)
      rw [e7] at e8
      have := congrArg List.length e8
      simp at this
    · have e5 : (u ++ y :: v') ++ 10 :: Jf (n + 1) a2 = body n m' ++ 10 :: z := by
        have := e2
        simp only [lineB, List.append_assoc, List.cons_append, List.nil_append] at this ⊢
        exact this
      obtain ⟨e6, _⟩ := cut_at e5 (by
        simp only [List.mem_append, List.mem_cons, not_or]
        exact ⟨hu10.1, fun e => hy e.symm, hu10.2.2⟩) n2
      have c3 := congrArg (List.count 32) e3
      have c4 := congrArg (List.count 32) e6
      rw [List.count_append, c1, List.count_cons] at c3
      rw [List.count_append, c2, List.count_cons] at c4
      have hsp : x ≠ 32 ∧ y ≠ 32 := by
        by_cases a : x = 32
        · subst a
          by_cases b : y = 32
          · exact absurd b hxy
          · have hb : (y == 32) = false := by rw [beq_eq_false_iff_ne]; exact b
            rw [hb] at c4
            simp at c3 c4
            omega
        · have ha : (x == 32) = false := by rw [beq_eq_false_iff_ne]; exact a
          rw [ha] at c3
          by_cases b : y = 32
          · subst b
            simp at c3 c4
            omega
          · exact ⟨a, b⟩
      -- which side of the last blank
      unfold body at e3 e6
      by_cases hin : u.length < (pre n m).length
      · obtain ⟨w, hw⟩ : ∃ w, pre n m = u ++ x :: w := by
          have h5 := congrArg (List.take (pre n m).length) e3
          rw [List.take_left, List.take_append] at h5
          rw [List.take_of_length_le (by omega)] at h5
          obtain ⟨k, hk⟩ : ∃ k, (pre n m).length - u.length = k + 1 := ⟨(pre n m).length - u.length - 1, by omega⟩
          rw [hk, List.take_succ_cons] at h5
          exact ⟨_, h5⟩
        have h6 : v' = w ++ 32 :: itoa (chk (pre n m)) := by
          have h7 := e3
          generalize itoa ((chk (pre n m) : Nat) : Int) = q at *
          rw [hw, List.append_assoc] at h7
          have := List.append_cancel_left h7
          simp only [List.cons_append] at this
          injection this with _ this
          exact this.symm
        have e7 : (u ++ y :: w) ++ 32 :: itoa (chk (pre n m)) = pre n m' ++ 32 :: itoa (chk (pre n m')) := by
          rw [← e6, h6]; simp
        obtain ⟨e8, e9⟩ := cut_last e7 (itoa_no (.inl rfl)) (itoa_no (.inl rfl))
        have e10 := itoa_inj e9
        rw [← e8, hw] at e10
        exact chk_turn u w (fun e => hxy e.symm) (by omega)
      · obtain ⟨w, hw⟩ : ∃ w, u = pre n m ++ 32 :: w := by
          have h5 := congrArg (List.take u.length) e3
          rw [List.take_left, List.take_append] at h5
          rw [List.take_of_length_le (by omega)] at h5
          by_cases h8 : u.length - (pre n m).length = 0
          · have h9 : u = pre n m := by rw [h8, List.take_zero, List.append_nil] at h5; exact h5.symm
            rw [h9] at e3
            have := List.append_cancel_left e3
            injection this with this _
            exact absurd this.symm hsp.1
          · obtain ⟨k, hk⟩ : ∃ k, u.length - (pre n m).length = k + 1 := ⟨u.length - (pre n m).length - 1, by omega⟩
            rw [hk, List.take_succ_cons] at h5
            exact ⟨_, h5.symm⟩
        have h6 : itoa (chk (pre n m)) = w ++ x :: v' := by
          rw [hw, List.append_assoc] at e3
          have := List.append_cancel_left e3
          injection this
        have h32 : (32 : UInt8) ∉ w ++ y :: v' := by
          have := itoa_no (n := ((chk (pre n m) : Nat) : Int)) (b := 32) (.inl rfl)
          rw [h6] at this
          simp only [List.mem_append, List.mem_cons, not_or] at this ⊢
          exact ⟨this.1, fun e => hsp.2 e.symm, this.2.2⟩
        have e7 : pre n m ++ 32 :: (w ++ y :: v') = pre n m' ++ 32 :: itoa (chk (pre n m')) := by
          rw [← e6, hw]; simp
        obtain ⟨e8, e9⟩ := cut_last e7 h32 (itoa_no (.inl rfl))
        rw [← e8, h6] at e9
        have := List.append_cancel_left e9
        injection this with this _
        exact hxy this
/-- a journal with one byte turned is read up to that byte's line -/
theorem turned {a1 a2 : List Mv} {m : Mv} {x y : UInt8} {u v : Bs} {acc' : List Mv} {r : Bs} (h : Valid (a1 ++ m :: a2)) (e : lineB a1.length m = u ++ x :: v) (hxy : y ≠ x)
    (ho : Opened (J a1 ++ (u ++ y :: v ++ Jf (a1.length + 1) a2)) acc' r) : acc' = a1 := by
  have hall := h.all
  have hv1 : Valid a1 := by have := h.take a1.length; rwa [List.take_left] at this
  have e2 : Jf 0 acc' ++ r = Jf 0 a1 ++ (u ++ y :: v ++ Jf (a1.length + 1) a2) := ho.eq.symm
  rcases journals ho.valid.all hv1.all e2 with ⟨c, h1, h2⟩ | ⟨p, c, h1, h2⟩
  · match c, h1, h2 with
    | [], h1, _ => rw [h1, List.append_nil]
    | p :: t, h1, h2 =>
      exfalso
      rw [Nat.zero_add] at h2
      have hp := h acc'.length p (by rw [h1]; simp)
      rw [h1, List.append_assoc, List.take_left] at hp
      have hb := body_no10 (n := acc'.length) hp.1
      refine ho.stop (body acc'.length p) _ (by rw [h2]; simp only [Jf, lineB, List.append_assoc, List.cons_append, List.nil_append]; rfl) hb p (parse_body hp.1 hp.2.1) rfl hp
  · exfalso
    rw [Nat.zero_add] at h2
    have hp := (ho.valid.all p (by rw [h1]; simp)).1
    refine damaged (hall m (by simp)).1 hp (fun z hz => hall z (List.mem_append_right _ (List.mem_cons_of_mem _ hz))) e hxy (z := Jf (a1.length + 1) c ++ r) ?_
    rw [h2]
    simp only [Jf, List.append_assoc]
end Go.Proofs.YtgahgdgpncnffaaDoor.DepM
