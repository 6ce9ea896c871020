/- depot: slices of bytes; IndexByte, Split, Atoi, Clone in this law's words. -/
import Derived.Test.YtgahgdgpncnffaaDoorD4
import Derived.Shelf.Bytes.SlIndexAt
import Derived.Laws.BytesArg
namespace Go.Proofs.YtgahgdgpncnffaaDoor
open Go.RowKit Go.Lib DepM Go.Sort

/-- bytes lie at a place -/
def BAt (w : World) (g o : Nat) (bs : Bs) : Prop := ∀ i (h : i < bs.length), w.cell? ⟨g, o + i, none⟩ = some (.int .u8 (bs[i].toNat : Int))
def nums (bs : Bs) : List Int := bs.map (fun x => (x.toNat : Int))
theorem bytesOf_nums (bs : Bs) : Lib.bytesOf (nums bs) = bs := by
  unfold Lib.bytesOf nums
  rw [List.map_map]
  conv => rhs; rw [← List.map_id bs]
  apply List.map_congr_left
  intro x _
  simp
theorem strOf_nums (bs : Bs) : strOfNums (nums bs) = strB bs := by
  apply ByteArray.ext
  apply Array.toList_inj.1
  rw [strOfNums_data, strB_list]
  exact bytesOf_nums bs
theorem BAt.getD {w : World} {g o : Nat} {bs : Bs} (h : BAt w g o bs) : ∀ i, i < bs.length → w.cell? ⟨g, o + i, none⟩ = some (.int .u8 ((nums bs).getD i 0)) := fun i hi => by
  rw [h i hi]
  simp [nums, List.getD, List.getElem?_eq_getElem hi]
theorem BAt.take {w : World} {g o : Nat} {bs : Bs} (h : BAt w g o bs) (k : Nat) : BAt w g o (bs.take k) := fun i hi => by
  rw [List.length_take] at hi
  rw [h i (by omega), List.getElem_take]
theorem BAt.drop {w : World} {g o : Nat} {bs : Bs} (h : BAt w g o bs) (k : Nat) : BAt w g (o + k) (bs.drop k) := fun i hi => by
  rw [List.length_drop] at hi
  rw [Nat.add_assoc, h (k + i) (by omega), List.getElem_drop]
theorem BAt.nil (w : World) (g o : Nat) : BAt w g o [] := fun i hi => absurd hi (by simp)
theorem BAt.keep {w w' : World} {g o : Nat} {bs : Bs} (h : BAt w g o bs) (hb : w'.heap[g]? = w.heap[g]?) : BAt w' g o bs := fun i hi => by
  rw [World.cell?_of_block (w := w) (a := ⟨g, o + i, none⟩) hb]; exact h i hi
theorem BAt.conv {w : World} {g o : Nat} {bs : Bs} (h : BAt w g o bs) (n cap : Nat) (hn : bs.length = n) : (convert 23 9 (.slice (some ⟨g, o, none⟩) n cap)).run Tryd.prog w = .ok (.string (strB bs)) w := by
  have := run_convert_bytes_arg (P := Tryd.prog) w 23 5 Tryd.underlying23 Tryd.underlying5 g o n cap (nums bs) (by rw [nums, List.length_map]; exact hn) (fun i hi => h.getD i (by omega)) 9 Tryd.underlying9
  rw [strOf_nums] at this
  exact this
theorem conv_nil (w : World) (n c : Nat) : (convert 23 9 (.slice none n c)).run Tryd.prog w = .ok (.string (strB [])) w :=
  run_convert_bytes_nil (P := Tryd.prog) w 23 5 Tryd.underlying23 Tryd.underlying5 n c 9 Tryd.underlying9
/-- a row of bytes -/
abbrev Row (w : World) (B : Nat) (v : Value) (bs : Bs) : Prop := w.ownsRow B 5 1 v bs.length (strCells (strB bs))
theorem Row.at {w : World} {B g c n : Nat} {bs : Bs} (h : Row w B (.slice (some ⟨g, 0, none⟩) n c) bs) : n = bs.length ∧ n ≤ c ∧ BAt w g 0 bs := by
  rcases h.2 with ⟨hv, h0⟩ | ⟨g', cap, cur, hv, _, hg, h1, h2, h3, h4⟩
  · cases hv
  · injection hv with hv1 hv2 hv3
    injection hv1 with hv1
    injection hv1 with hv1
    subst hv1 hv2 hv3
    refine ⟨rfl, h1, fun i hi => ?_⟩
    have e : (cur.toList.take (bs.length * 1))[i]? = some (.int .u8 (bs[i].toNat : Int)) := by
      rw [h4]
      simp [strCells, strB, hi]
    rw [List.getElem?_take, if_pos (by omega)] at e
    show (match w.heap[g]? with | some (.cells c _ _) => if (none : Option _).isSome then none else c[0 + i]? | _ => none) = _
    rw [hg]
    simpa using e
theorem Row.form {w : World} {B : Nat} {v : Value} {bs : Bs} (h : Row w B v bs) : (v = .slice none 0 0 ∧ bs = []) ∨ ∃ g c, v = .slice (some ⟨g, 0, none⟩) bs.length c ∧ bs.length ≤ c ∧ B ≤ g ∧ g < w.heap.size ∧ BAt w g 0 bs := by
  rcases h.2 with ⟨hv, h0⟩ | ⟨g, cap, cur, hv, hB, hg, h1, h2⟩
  · exact .inl ⟨hv, List.length_eq_zero_iff.1 h0⟩
  · subst hv
    have hlt : g < w.heap.size := by
      rcases Nat.lt_or_ge g w.heap.size with h | h
      · exact h
      · rw [Array.getElem?_eq_none h] at hg; cases hg
    exact .inr ⟨g, cap, rfl, h1, hB, hlt, (Row.at h).2.2⟩
theorem Row.conv {w : World} {B : Nat} {v : Value} {bs : Bs} (h : Row w B v bs) : (convert 23 9 v).run Tryd.prog w = .ok (.string (strB bs)) w := by
  rcases h.form with ⟨rfl, rfl⟩ | ⟨g, c, rfl, _, _, _, hb⟩
  · exact conv_nil w 0 0
  · exact hb.conv _ _ rfl

/-! IndexByte -/
theorem ix_miss : ∀ {l : Bs} {c : UInt8}, Lib.indexByte l c = -1 → c ∉ l
  | [], _, _ => by simp
  | b :: l, c, h => by
    unfold Lib.indexByte at h
    split at h
    · cases h
    · rename_i hb
      split at h
      · rename_i h1
        simp only [beq_iff_eq] at hb h1
        simp only [List.mem_cons, not_or]
        exact ⟨fun e => hb e.symm, ix_miss h1⟩
      · have := indexByte_ge l c
        rename_i h1
        simp only [beq_iff_eq] at h1
        omega
theorem ix_hit : ∀ {l : Bs} {c : UInt8}, Lib.indexByte l c ≠ -1 → ∃ k : Nat, Lib.indexByte l c = k ∧ k < l.length ∧ l = l.take k ++ c :: l.drop (k + 1) ∧ c ∉ l.take k
  | [], _, h => absurd rfl h
  | b :: l, c, h => by
    unfold Lib.indexByte at h ⊢
    split
    · rename_i hb
      simp only [beq_iff_eq] at hb
      subst hb
      exact ⟨0, rfl, by simp, by simp, by simp⟩
    · rename_i hb
      rw [if_neg hb] at h
      split
      · rename_i h1
        rw [if_pos h1] at h
        exact absurd rfl h
      · rename_i h1
        simp only [beq_iff_eq] at hb h1
        obtain ⟨k, h2, h3, h4, h5⟩ := ix_hit h1
        refine ⟨k + 1, by rw [h2]; omega, by simp; omega, ?_, ?_⟩
        · simp only [List.take_succ_cons, List.drop_succ_cons, List.cons_append]
          rw [← h4]
        · simp only [List.take_succ_cons, List.mem_cons, not_or]
          exact ⟨fun e => hb e.symm, h5⟩
theorem IndexByte_any {w : World} {g o : Nat} {bs : Bs} (h : BAt w g o bs) (n c : Nat) (hn : bs.length = n) :
    Calls Tryd.prog 12 #[.slice (some ⟨g, o, none⟩) n c, .int .u8 10] w fun e w' => e = .returned (.int .i64 (Lib.indexByte bs 10)) ∧ w' = w := by
  have := Any.bytes_IndexByte_at layIdx ⟨g, o, none⟩ n c (nums bs) 10 w (by rw [nums, List.length_map]; exact hn) (fun i hi => by
    have e : (⟨g, o, none⟩ : Addr).add i = ⟨g, o + i, none⟩ := by
      unfold Addr.add
      split
      · rename_i h0; subst h0; rfl
      · rfl
    rw [e]
    exact h.getD i (by omega))
  rw [bytesOf_nums] at this
  exact this

/-! Split -/
theorem index_cons (b : UInt8) (l : Bs) : Lib.index (b :: l) [32] = if b = 32 then 0 else if Lib.index l [32] = -1 then -1 else Lib.index l [32] + 1 := by
  rw [Lib.index]
  by_cases h : b = 32
  · subst h; simp [List.isPrefixOf]
  · have hp : ([32] : List UInt8).isPrefixOf (b :: l) = false := by simp [List.isPrefixOf, Ne.symm h]
    rw [hp, if_neg h]
    simp
theorem split_words : ∀ l : Bs, Lib.splitK [32] 0 (l.count 32) l = words l
  | [] => rfl
  | c :: l => by
    have ih := split_words l
    by_cases hc : c = 32
    · subst hc
      rw [List.count_cons_self, words, if_pos rfl]
      unfold Lib.splitK
      rw [index_cons, if_pos rfl]
      simp [ih]
    · rw [List.count_cons_of_ne (by simpa using hc), words, if_neg hc]
      cases hk : l.count 32 with
      | zero =>
        have h0 : (32 : UInt8) ∉ l := List.count_eq_zero.1 hk
        rw [words_one h0]
        rfl
      | succ k =>
        rw [hk] at ih
        have hm : (32 : UInt8) ∈ l := List.count_pos_iff.1 (by omega)
        unfold Lib.splitK at ih ⊢
        have hix : Lib.index l [32] ≠ -1 := fun e => by
          have := Lib.count_miss (sub := [32]) (s := l) e
          rw [Lib.count_one] at this
          omega
        have hge := Lib.index_ge l [32]
        obtain ⟨j, hj⟩ : ∃ j : Nat, Lib.index l [32] = j := ⟨(Lib.index l [32]).toNat, by omega⟩
        rw [hj] at ih
        rw [index_cons, if_neg hc, if_neg hix, hj]
        have e1 : ((j : Int) == -1) = false := by rw [beq_eq_false_iff_ne]; omega
        have e2 : ((j : Int) + 1 == -1) = false := by rw [beq_eq_false_iff_ne]; omega
        simp only [e1, e2, Bool.false_eq_true, if_false] at ih ⊢
        rw [← ih]
        have e3 : ((j : Int) + 1).toNat = j + 1 := by omega
        have e4 : (j : Int).toNat = j := by omega
        rw [e3, e4]
        simp only [Nat.add_zero, List.length_cons, List.length_nil]
        rw [show j + 1 + (0 + 1) = (j + (0 + 1)) + 1 by omega, List.drop_succ_cons, List.take_succ_cons]
theorem info9 : (Tryd.prog.info? (laySplit_ren.t 9)).map (fun i => (i.zero, i.size, i.bytes)) = some (some (.string ByteArray.empty), 1, 16) := by kernel_rfl
theorem Split_any (s : ByteArray) (w : World) (he : Env w) (hs : s.size ≤ 1000000) (n : Nat) (hn : n = (words s.data.toList).length) :
    Calls Tryd.prog 13 #[.string s, .string ⟨#[32]⟩] w fun e w' => e = .returned (.slice (some ⟨w.heap.size, 0, none⟩) n n) ∧ w' = w.alloc (.cells ((words s.data.toList).map (fun x => Value.string (strB x))).toArray 9) := by
  obtain ⟨m, hm⟩ := he.mx
  have h := Any.strings_Split laySplit info9 s ⟨#[32]⟩ m w (by omega) hm (by decide)
  have h1 : Lib.splitB ⟨#[32]⟩ 0 (Lib.countB s ⟨#[32]⟩) s = (words s.data.toList).map strB := by
    have h2 := Lib.splitB_data ⟨#[32]⟩ 0 (Lib.countB s ⟨#[32]⟩) s
    have h3 : Lib.countB s ⟨#[32]⟩ = s.data.toList.count 32 := Lib.count_one 32 s.data.toList
    rw [h3] at h2 ⊢
    rw [show (⟨#[32]⟩ : ByteArray).data.toList = [32] from rfl, split_words] at h2
    rw [← h2, List.map_map]
    conv => lhs; rw [← List.map_id (Lib.splitB _ _ _ s)]
    apply List.map_congr_left
    intro x _
    rfl
  have h4 := Lib.splitB_all ⟨#[32]⟩ (by decide) 0 _ s rfl
  rw [h1, List.length_map, ← hn] at h4
  rw [h1, ← h4, List.map_map] at h
  exact h

/-! Atoi -/
theorem since_bytesWorld (w : World) (e : TypeId) (t : ByteArray) : w.Since w.heap.size (Lib.bytesWorld w e t) :=
  since_of_below (bytesWorld_below w e t)
theorem Atoi_any (s : ByteArray) (w : World) (he : Env w) (hs : s.size ≤ 1000000) :
    Calls Tryd.prog 14 #[.string s] w fun e w' => w.Since w.heap.size w' ∧ ((∃ v, Lib.atoiAll s.data.toList = .ok v ∧ e = .returned (.tuple #[.int .i64 v, .nilIface])) ∨ ((∀ v, Lib.atoiAll s.data.toList ≠ .ok v) ∧ ∃ x tp p, e = .returned (.tuple #[.int .i64 x, .iface tp p]))) := by
  cases h : Lib.atoiAll s.data.toList
  · rename_i v
    refine (Any.strconv_Atoi_ok layAtoi s (by omega) v h w).mono ?_
    rintro e w' ⟨rfl, hw⟩
    refine ⟨?_, .inl ⟨v, rfl, rfl⟩⟩
    rcases hw with rfl | ⟨t, rfl⟩
    · exact World.Since.refl _ _
    · exact since_bytesWorld _ _ _
  · obtain ⟨tp, p, hv⟩ := he.syn
    refine (Any.strconv_Atoi_syntax_var layAtoi s (by omega) h tp p w hv).mono ?_
    rintro e w' ⟨N, rfl, _, _, hb⟩
    exact ⟨since_of_below hb, .inr ⟨fun v => by simp, _, _, _, rfl⟩⟩
  · obtain ⟨tp, p, hv⟩ := he.rng
    refine (Any.strconv_Atoi_range_var layAtoi s (by omega) h tp p w hv).mono ?_
    rintro e w' ⟨N, rfl, _, _, hb⟩
    exact ⟨since_of_below hb, .inr ⟨fun v => by simp, _, _, _, rfl⟩⟩

/-! Clone -/
theorem Clone_any {w : World} {B : Nat} {v : Value} {bs : Bs} (h : Row w B v bs) (hl : bs.length ≤ 1000000) :
    Calls Tryd.prog 17 #[v] w fun e w' => ∃ v', e = .returned v' ∧ Row w' w.heap.size v' bs ∧ w.Since w.heap.size w' := by
  rcases h.form with ⟨rfl, rfl⟩ | ⟨g, c, rfl, _, _, _, hb⟩
  · refine (Any.bytes_Clone_nil layClone 0 0 w).mono ?_
    rintro e w' ⟨rfl, rfl⟩
    exact ⟨_, rfl, World.ownsRow_nil _ _ _ _, World.Since.refl _ _⟩
  · refine (Any.bytes_Clone_at layClone ⟨g, 0, none⟩ bs.length c (nums bs) w (by simp [nums]) (by omega) (fun i hi => by
      have e : (⟨g, 0, none⟩ : Addr).add i = ⟨g, 0 + i, none⟩ := by
        unfold Addr.add
        split
        · rename_i h0; subst h0; rfl
        · rfl
      rw [e]
      exact hb.getD i hi)).mono ?_
    rintro e w' ⟨v', rfl, h1, _, h2⟩
    refine ⟨v', rfl, ?_, since_of_below h2⟩
    have e : (nums bs).map (Value.int .u8) = strCells (strB bs) := by simp [nums, strCells, strB]
    rw [e] at h1
    exact h1
end Go.Proofs.YtgahgdgpncnffaaDoor
