/- A piece of a round way turned over: its places, its length. Plain. -/
import Derived.Test.YtlopcegpolpndaaTripM
namespace Go.Proofs.Ytlopcegpolpndaa.TripM
open PermM

def turn (l : List Nat) (i k : Nat) : List Nat := l.take i ++ ((l.drop i).take (k + 1 - i)).reverse ++ l.drop (k + 1)
theorem turn_split (l : List Nat) (i k : Nat) (hk : i ≤ k + 1) : l = l.take i ++ (l.drop i).take (k + 1 - i) ++ l.drop (k + 1) := by
  conv => lhs; rw [← List.take_append_drop i l]
  rw [List.append_assoc]
  congr 1
  conv => lhs; rw [← List.take_append_drop (k + 1 - i) (l.drop i)]
  rw [List.drop_drop]
  congr 2; omega
theorem turn_perm (l : List Nat) (i k : Nat) (hk : i ≤ k + 1) : List.Perm (turn l i k) l := by
  conv => rhs; rw [turn_split l i k hk]
  unfold turn
  exact ((List.reverse_perm _).append_left _).append_right _
theorem IsPerm_turn {n : Nat} {l : List Nat} (h : IsPerm n l) {i k : Nat} (hk : i ≤ k + 1) : IsPerm n (turn l i k) := by
  have hp := turn_perm l i k hk
  exact ⟨hp.length_eq.trans h.len, hp.nodup_iff.2 h.nodup, fun x hx => h.lt x (hp.mem_iff.1 hx)⟩
theorem turn_len (l : List Nat) (i k : Nat) (hk : i ≤ k + 1) : (turn l i k).length = l.length := (turn_perm l i k hk).length_eq
theorem turn_get (l : List Nat) (i k j : Nat) (hik : i ≤ k) (hk : k < l.length) : (turn l i k).getD j 0 = if i ≤ j ∧ j ≤ k then l.getD (i + k - j) 0 else l.getD j 0 := by
  have hlen : ((l.drop i).take (k + 1 - i)).length = k + 1 - i := by rw [List.length_take, List.length_drop]; omega
  have htl : (l.take i).length = i := by rw [List.length_take]; omega
  unfold turn
  rw [List.getD_eq_getElem?_getD, List.append_assoc]
  by_cases h1 : j < i
  · rw [if_neg (by omega), List.getElem?_append_left (by omega), List.getElem?_take, if_pos h1, List.getD_eq_getElem?_getD]
  · rw [List.getElem?_append_right (by omega), htl]
    by_cases h2 : j ≤ k
    · rw [if_pos ⟨by omega, h2⟩, List.getElem?_append_left (by rw [List.length_reverse]; omega), List.getElem?_reverse (by omega), hlen, List.getElem?_take, if_pos (by omega), List.getElem?_drop, List.getD_eq_getElem?_getD]
      congr 2; omega
    · rw [if_neg (by omega), List.getElem?_append_right (by rw [List.length_reverse]; omega), List.length_reverse, hlen, List.getElem?_drop, List.getD_eq_getElem?_getD]
      congr 2; omega
theorem turn_longOf (D : Nat → Nat → Int) (hs : ∀ a b, D a b = D b a) (l : List Nat) (i k : Nat) (hi : 1 ≤ i) (hik : i < k) (hk : k < l.length) :
    longOf D (turn l i k) = longOf D l - D (l.getD (i - 1) 0) (l.getD i 0) - D (l.getD k 0) (l.getD ((k + 1) % l.length) 0) + D (l.getD (i - 1) 0) (l.getD k 0) + D (l.getD i 0) (l.getD ((k + 1) % l.length) 0) := by
  obtain ⟨q, rfl⟩ : ∃ q, i = q + 1 := ⟨i - 1, by omega⟩
  rw [Nat.add_sub_cancel]
  have hlen : ((l.drop (q + 1)).take (k + 1 - (q + 1))).length = k - q := by rw [List.length_take, List.length_drop]; omega
  have hx : l.take (q + 1) = l.take q ++ [l.getD q 0] := by
    rw [List.take_succ_eq_append_getElem (by omega), List.getD_eq_getElem?_getD, List.getElem?_eq_getElem (by omega)]; rfl
  obtain ⟨b, mid, hbm⟩ : ∃ b mid, (l.drop (q + 1)).take (k + 1 - (q + 1)) = b :: mid := by
    cases h : (l.drop (q + 1)).take (k + 1 - (q + 1)) with
    | nil => rw [h] at hlen; simp at hlen; omega
    | cons b mid => exact ⟨b, mid, rfl⟩
  have hpg : ∀ j, j < k - q → ((l.drop (q + 1)).take (k + 1 - (q + 1)))[j]? = l[q + 1 + j]? := fun j hj => by
    rw [List.getElem?_take, if_pos (by omega), List.getElem?_drop]
  have hb : b = l.getD (q + 1) 0 := by
    have := hpg 0 (by omega)
    rw [hbm] at this
    simp at this
    rw [List.getD_eq_getElem?_getD, ← this]; rfl
  have hc : (b :: mid).getLastD 0 = l.getD k 0 := by
    rw [List.getLastD_eq_getLast?, List.getLast?_eq_getElem?, ← hbm, hlen, hpg _ (by omega), List.getD_eq_getElem?_getD]
    congr 2; omega
  have hd : l.getD ((k + 1) % l.length) 0 = ((l.drop (k + 1) ++ l.take q ++ [l.getD q 0]).headD 0) := by
    rw [List.append_assoc, ← hx]
    by_cases h : k + 1 = l.length
    · rw [h, Nat.mod_self, List.drop_of_length_le (Nat.le_refl _), List.nil_append, List.headD_eq_head?_getD, List.head?_eq_getElem?, List.getElem?_take, if_pos (by omega), List.getD_eq_getElem?_getD]
    · rw [Nat.mod_eq_of_lt (by omega), List.headD_eq_head?_getD, List.head?_eq_getElem?, List.getElem?_append_left (by rw [List.length_drop]; omega), List.getElem?_drop, List.getD_eq_getElem?_getD, Nat.add_zero]
  have key := turn_long D hs (l.take q) (l.getD q 0) b mid (l.drop (k + 1)) _ hd
  have e1 : turn l (q + 1) k = l.take q ++ l.getD q 0 :: (b :: mid).reverse ++ l.drop (k + 1) := by
    unfold turn
    rw [hx, hbm]; simp
  have e2 : l = l.take q ++ l.getD q 0 :: (b :: mid) ++ l.drop (k + 1) := by
    conv => lhs; rw [turn_split l (q + 1) k (by omega), hx, hbm]
    simp
  rw [← e1, ← e2, hc] at key
  rw [key, hb]
end Go.Proofs.Ytlopcegpolpndaa.TripM
