/- Tours joined by what that saves: each place on one, none overloaded, no longer than to and fro. Plain. (From the template XSavedM.) -/
import Derived.Test.YtlopcegpolpndaaTripM
namespace Go.Proofs.Ytlopcegpolpndaa.SavedM
open TripM

def isum : Nat → (Nat → Int) → Int
  | 0, _ => 0
  | n + 1, f => isum n f + f n
theorem isum_congr {f g : Nat → Int} : ∀ {n : Nat}, (∀ i, i < n → f i = g i) → isum n f = isum n g
  | 0, _ => rfl
  | n + 1, h => by unfold isum; rw [isum_congr (fun i hi => h i (by omega)), h n (by omega)]
theorem isum_one {f g : Nat → Int} {a : Nat} : ∀ {n : Nat}, a < n → (∀ i, i < n → i ≠ a → g i = f i) → isum n g = isum n f - f a + g a
  | 0, h, _ => by omega
  | n + 1, h, hg => by
    unfold isum
    by_cases e : a = n
    · subst e
      rw [isum_congr (f := g) (g := f) (fun i hi => hg i (by omega) (by omega))]; omega
    · rw [isum_one (n := n) (a := a) (by omega) (fun i hi hn => hg i (by omega) hn), hg n (by omega) (fun h => e h.symm)]; omega
theorem isum_two {f g : Nat → Int} {a b n : Nat} (ha : a < n) (hb : b < n) (hab : a ≠ b) (hg : ∀ i, i < n → i ≠ a → i ≠ b → g i = f i) : isum n g = isum n f - f a - f b + g a + g b := by
  have h1 : isum n (fun i => if i = a then g i else f i) = isum n f - f a + g a := by
    rw [isum_one (f := f) ha (fun i _ hi => if_neg hi), if_pos rfl]
  have h2 : isum n g = isum n (fun i => if i = a then g i else f i) - (if b = a then g b else f b) + g b := isum_one hb (fun i hi hn => by
    by_cases e : i = a
    · rw [if_pos e]
    · rw [if_neg e]; exact hg i hi e hn)
  rw [if_neg (fun h => hab h.symm)] at h2
  omega
theorem isum_le {f g : Nat → Int} : ∀ {n : Nat}, (∀ i, i < n → f i ≤ g i) → isum n f ≤ isum n g
  | 0, _ => Int.le_refl _
  | n + 1, h => by
    have h1 := isum_le (n := n) (fun i hi => h i (by omega))
    have h2 := h n (by omega)
    unfold isum; omega

variable (D : Nat → Nat → Int)
/-- there and back by a tour -/
def tl (u : List Nat) : Int := if u = [] then 0 else longOf D (0 :: u)
def star : List Nat → Int
  | [] => 0
  | p :: u => D 0 p + D p 0 + star u
def load (wants : Nat → Int) : List Nat → Int
  | [] => 0
  | p :: u => wants p + load wants u
variable {D}
theorem load_append {wants : Nat → Int} : ∀ a b : List Nat, load wants (a ++ b) = load wants a + load wants b
  | [], b => by simp [load]
  | x :: a, b => by show wants x + load wants (a ++ b) = wants x + load wants a + load wants b; rw [load_append a b]; omega
theorem star_append : ∀ a b : List Nat, star D (a ++ b) = star D a + star D b
  | [], b => by simp [star]
  | x :: a, b => by show _ + _ + star D (a ++ b) = _ + _ + star D a + star D b; rw [star_append a b]; omega
theorem tl_eq {u : List Nat} (h : u ≠ []) : tl D u = pathLen D (0 :: (u ++ [0])) := by
  unfold tl
  rw [if_neg h]
  match u, h with
  | a :: u, _ => rw [longOf_closed]; rfl
theorem tl_merge {t u : List Nat} {i k : Nat} (ht : t ≠ []) (hi : t.getLastD 0 = i) : tl D (t ++ k :: u) = tl D t + tl D (k :: u) - (D i 0 + D 0 k - D i k) := by
  rw [tl_eq (by simp), tl_eq ht, tl_eq (by simp)]
  have h1 : pathLen D (0 :: (t ++ k :: u ++ [0])) = pathLen D (0 :: t ++ [k]) + pathLen D (k :: u ++ [0]) := by
    have := pathLen_append D (0 :: t) (u ++ [0]) k
    simpa using this
  have h2 : pathLen D (0 :: t ++ [k]) = pathLen D (0 :: t) + D i k := by
    rw [pathLen_snoc D (0 :: t) k (by simp), List.getLastD_cons]
    rw [show t.getLastD 0 = i from hi]
  have h3 : pathLen D (0 :: (t ++ [0])) = pathLen D (0 :: t) + D i 0 := by
    have := pathLen_snoc D (0 :: t) 0 (by simp)
    rw [List.getLastD_cons, show t.getLastD 0 = i from hi] at this
    exact this
  have h4 : pathLen D (0 :: (k :: u ++ [0])) = D 0 k + pathLen D (k :: u ++ [0]) := rfl
  rw [h1, h2, h3, h4]; omega

/-- tours by their first places -/
structure Sv (D : Nat → Nat → Int) (n : Nat) (wants : Nat → Int) (room : Int) (tr : Nat → List Nat) : Prop where
  head : ∀ i, tr i ≠ [] → 1 ≤ i ∧ i < n ∧ ∃ u, tr i = i :: u
  once : ∀ x, isum n (fun i => ((tr i).count x : Int)) = if 1 ≤ x ∧ x < n then 1 else 0
  load : ∀ i, tr i ≠ [] → load wants (tr i) ≤ room
  sum : isum n (fun i => tl D (tr i)) ≤ isum n (fun i => star D (tr i))
variable {n : Nat} {wants : Nat → Int} {room : Int} {tr : Nat → List Nat}
theorem isum_zero : ∀ m, isum m (fun _ => 0) = 0
  | 0 => rfl
  | m + 1 => by unfold isum; rw [isum_zero m]; rfl
theorem isum_ind (x : Nat) (P : Nat → Prop) [DecidablePred P] : ∀ m, isum m (fun i => if P i ∧ i = x then 1 else 0) = if P x ∧ x < m then 1 else 0
  | 0 => by rw [if_neg (by omega)]; rfl
  | m + 1 => by
    show isum m _ + (if P m ∧ m = x then (1 : Int) else 0) = _
    rw [isum_ind x P m]
    by_cases e : m = x
    · subst e
      rw [if_neg (by omega)]
      by_cases hp : P m
      · rw [if_pos ⟨hp, rfl⟩, if_pos ⟨hp, by omega⟩]; rfl
      · rw [if_neg (fun h => hp h.1), if_neg (fun h => hp h.1)]; rfl
    · rw [if_neg (c := P m ∧ m = x) (fun h => e h.2)]
      by_cases hp : P x ∧ x < m
      · rw [if_pos hp, if_pos ⟨hp.1, by omega⟩]; rfl
      · rw [if_neg hp, if_neg (fun h => hp ⟨h.1, by omega⟩)]; rfl
def one (n i : Nat) : List Nat := if 1 ≤ i ∧ i < n then [i] else []
theorem sv_start (hw : ∀ i, 1 ≤ i → i < n → wants i ≤ room) : Sv D n wants room (one n) := by
  refine ⟨fun i hi => ?_, fun x => ?_, fun i hi => ?_, ?_⟩
  · unfold one at hi ⊢
    split at hi
    · rename_i h; rw [if_pos h]; exact ⟨h.1, h.2, [], rfl⟩
    · exact absurd rfl hi
  · rw [isum_congr (g := fun i => if 1 ≤ i ∧ i = x then 1 else 0) (fun i hi => ?_), isum_ind x (fun i => 1 ≤ i) n]
    unfold one
    by_cases h : 1 ≤ i
    · rw [if_pos ⟨h, hi⟩]
      by_cases e : i = x
      · subst e; rw [if_pos ⟨h, rfl⟩]; simp
      · rw [if_neg (fun h => e h.2)]; simp [e]
    · rw [if_neg (fun h' => h h'.1), if_neg (fun h' => h h'.1)]; rfl
  · unfold one at hi ⊢
    split at hi
    · rename_i h; rw [if_pos h]; have := hw i h.1 h.2; show wants i + 0 ≤ room; omega
    · exact absurd rfl hi
  · refine isum_le (fun i _ => ?_)
    unfold one
    split
    · rw [tl_eq (by simp)]
      show D 0 i + (D i 0 + 0) ≤ D 0 i + D i 0 + 0
      omega
    · exact Int.le_refl _
def joined (tr : Nat → List Nat) (f k : Nat) : Nat → List Nat := fun i => if i = k then [] else if i = f then tr f ++ tr k else tr i
theorem sv_join {f k i : Nat} (h : Sv D n wants room tr) (hf : tr f ≠ []) (hk : tr k ≠ []) (hfk : f ≠ k) (hi : (tr f).getLastD 0 = i) (hl : SavedM.load wants (tr f) + SavedM.load wants (tr k) ≤ room) (hs : 0 < D i 0 + D 0 k - D i k) :
    Sv D n wants room (joined tr f k) := by
  obtain ⟨f1, f2, uf, ef⟩ := h.head f hf
  obtain ⟨k1, k2, uk, ek⟩ := h.head k hk
  have jf : joined tr f k f = tr f ++ tr k := by unfold joined; rw [if_neg hfk, if_pos rfl]
  have jk : joined tr f k k = [] := by unfold joined; rw [if_pos rfl]
  have jo : ∀ j, j ≠ f → j ≠ k → joined tr f k j = tr j := fun j a b => by unfold joined; rw [if_neg b, if_neg a]
  refine ⟨fun j hj => ?_, fun x => ?_, fun j hj => ?_, ?_⟩
  · by_cases e : j = k
    · subst e; exact absurd jk hj
    · by_cases e2 : j = f
      · subst e2; exact ⟨f1, f2, uf ++ tr k, by rw [jf, ef]; rfl⟩
      · rw [jo j e2 e] at hj ⊢; exact h.head j hj
  · rw [isum_two (f := fun i => ((tr i).count x : Int)) f2 k2 hfk (fun j _ a b => by show ((joined tr f k j).count x : Int) = _; rw [jo j a b]), h.once x]
    simp only [jf, jk, List.count_append, List.count_nil]
    omega
  · by_cases e : j = k
    · subst e; exact absurd jk hj
    · by_cases e2 : j = f
      · subst e2; rw [jf, load_append]; exact hl
      · rw [jo j e2 e] at hj ⊢; exact h.load j hj
  · have e1 := isum_two (f := fun i => tl D (tr i)) (g := fun i => tl D (joined tr f k i)) f2 k2 hfk (fun j _ a b => by show tl D (joined tr f k j) = _; rw [jo j a b])
    have e2 := isum_two (f := fun i => star D (tr i)) (g := fun i => star D (joined tr f k i)) f2 k2 hfk (fun j _ a b => by show star D (joined tr f k j) = _; rw [jo j a b])
    rw [e1, e2]
    simp only [jf, jk, star_append]
    have h1 := h.sum
    have h2 : tl D (tr f ++ tr k) = tl D (tr f) + tl D (tr k) - (D i 0 + D 0 k - D i k) := by
      rw [ek]; exact tl_merge hf hi
    have h3 : tl D [] = 0 := rfl
    have h4 : star D [] = 0 := rfl
    omega
/-- the tours that stand, by their first places -/
def row (n : Nat) (tr : Nat → List Nat) : List (List Nat) := ((List.range' 1 (n - 1)).map tr).filter (fun t => decide (t ≠ []))
def lsum {α : Type} (f : α → Int) : List α → Int
  | [] => 0
  | x :: l => f x + lsum f l
theorem lsum_append {α : Type} (f : α → Int) : ∀ a b : List α, lsum f (a ++ b) = lsum f a + lsum f b
  | [], b => by simp [lsum]
  | x :: a, b => by show f x + lsum f (a ++ b) = f x + lsum f a + lsum f b; rw [lsum_append f a b]; omega
theorem rowk_sum (f : List Nat → Int) (h0 : f [] = 0) (hz : tr 0 = []) : ∀ m, lsum f (((List.range' 1 m).map tr).filter (fun t => decide (t ≠ []))) = isum (m + 1) (fun i => f (tr i))
  | 0 => by show (0 : Int) = 0 + f (tr 0); rw [hz, h0]; rfl
  | m + 1 => by
    rw [List.range'_concat, List.map_append, List.filter_append, lsum_append, rowk_sum f h0 hz m]
    show _ = isum (m + 1) _ + f (tr (m + 1))
    congr 1
    rw [show 1 + 1 * m = m + 1 by omega]
    simp only [List.map_cons, List.map_nil, List.filter_cons, List.filter_nil]
    by_cases e : tr (m + 1) = []
    · simp [e, lsum, h0]
    · simp [e, lsum]
theorem row_sum (f : List Nat → Int) (h0 : f [] = 0) (h : Sv D n wants room tr) : lsum f (row n tr) = isum n (fun i => f (tr i)) := by
  have hz : tr 0 = [] := by
    by_cases e : tr 0 = []
    · exact e
    · have := (h.head 0 e).1; omega
  by_cases hn : n = 0
  · subst hn; rfl
  · unfold row
    rw [rowk_sum f h0 hz (n - 1), show n - 1 + 1 = n by omega]
/-- what the law asks -/
structure Saved (D : Nat → Nat → Int) (n : Nat) (wants : Nat → Int) (room : Int) (ts : List (List Nat)) : Prop where
  some : ∀ t ∈ ts, t ≠ []
  mem : ∀ t ∈ ts, ∀ p ∈ t, 1 ≤ p ∧ p < n
  load : ∀ t ∈ ts, SavedM.load wants t ≤ room
  once : ∀ x, 1 ≤ x → x < n → lsum (fun t => (t.count x : Int)) ts = 1
  sum : lsum (fun t => longOf D (0 :: t)) ts ≤ lsum (star D) ts
  few : ts.length ≤ n
theorem lsum_congr {α : Type} {f g : α → Int} : ∀ {l : List α}, (∀ x ∈ l, f x = g x) → lsum f l = lsum g l
  | [], _ => rfl
  | x :: l, h => by show f x + lsum f l = g x + lsum g l; rw [h x (List.mem_cons_self ..), lsum_congr (fun y hy => h y (List.mem_cons_of_mem _ hy))]
theorem isum_nonneg {f : Nat → Int} : ∀ {m : Nat}, (∀ i, i < m → 0 ≤ f i) → 0 ≤ isum m f
  | 0, _ => Int.le_refl _
  | m + 1, h => by have := isum_nonneg (m := m) (fun i hi => h i (by omega)); have := h m (by omega); unfold isum; omega
theorem isum_mem {f : Nat → Int} {i : Nat} : ∀ {m : Nat}, (∀ i, i < m → 0 ≤ f i) → i < m → f i ≤ isum m f
  | 0, _, h => by omega
  | m + 1, h, hi => by
    unfold isum
    by_cases e : i = m
    · subst e; have := isum_nonneg (m := i) (fun j hj => h j (by omega)); omega
    · have := isum_mem (m := m) (i := i) (fun j hj => h j (by omega)) (by omega); have := h m (by omega); omega
theorem sv_saved (h : Sv D n wants room tr) : Saved D n wants room (row n tr) := by
  have hsome : ∀ t ∈ row n tr, t ≠ [] := fun t ht => of_decide_eq_true (List.mem_filter.1 ht).2
  have hmem : ∀ t ∈ row n tr, ∃ i, t = tr i := fun t ht => by
    obtain ⟨i, _, he⟩ := List.mem_map.1 (List.mem_filter.1 ht).1
    exact ⟨i, he.symm⟩
  refine ⟨hsome, fun t ht p hp => ?_, fun t ht => ?_, fun x h1 h2 => ?_, ?_, ?_⟩
  · obtain ⟨i, rfl⟩ := hmem t ht
    have hi := h.head i (hsome _ ht)
    have h1 := h.once p
    have h2 := isum_mem (f := fun i => ((tr i).count p : Int)) (fun _ _ => by simp) hi.2.1
    have h3 := List.count_pos_iff.2 hp
    split at h1
    · assumption
    · omega
  · obtain ⟨i, rfl⟩ := hmem t ht
    exact h.load i (hsome _ ht)
  · rw [row_sum (fun t => (t.count x : Int)) rfl h, h.once x, if_pos ⟨h1, h2⟩]
  · rw [lsum_congr (g := tl D) (fun t ht => by unfold tl; rw [if_neg (hsome t ht)]), row_sum (tl D) rfl h, row_sum (star D) rfl h]
    exact h.sum
  · unfold row
    have := List.length_filter_le (fun t => decide (t ≠ [])) ((List.range' 1 (n - 1)).map tr)
    simp at this ⊢
    omega
end Go.Proofs.Ytlopcegpolpndaa.SavedM
