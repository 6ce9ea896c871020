/- Orders where what will be wanted is known: no plan costs less than Wagner's and Whitin's. Plain. (From the template XLotsM.) -/
import Init
namespace Go.Proofs.Ytimohdhmglpleaa.LotsM
section
variable (w O K : Nat → Int)
/-- what is wanted in the first t periods -/
def pre : Nat → Int
  | 0 => 0
  | t + 1 => pre t + w t
/-- what it costs to keep, over the last n of the first t periods, all that is wanted up to t -/
def kpN (t : Nat) : Nat → Int
  | 0 => 0
  | n + 1 => kpN t n + (pre w t - pre w (t - n)) * K (t - n - 1)
/-- an order at i that lasts up to t -/
def blk (i t : Nat) : Int := kpN w K t (t - i) + if 0 < pre w t - pre w i then O i else 0
/-- what is left ahead of period t, by a plan -/
def hv (x : Nat → Int) : Nat → Int
  | 0 => 0
  | t + 1 => hv x t + x t - w t
def cost (x : Nat → Int) : Nat → Int
  | 0 => 0
  | t + 1 => cost x t + (if 0 < x t then O t else 0) + hv w x (t + 1) * K t
/-- what n periods from t on cost, h being left ahead -/
def sc (x : Nat → Int) : Nat → Int → Nat → Int
  | _, _, 0 => 0
  | t, h, n + 1 => (if 0 < x t then O t else 0) + (h + x t - w t) * K t + sc x (t + 1) (h + x t - w t) n
def ok (x : Nat → Int) : Nat → Int → Nat → Prop
  | _, h, 0 => h = 0
  | t, h, n + 1 => 0 ≤ h + x t - w t ∧ (0 < h → x t ≤ 0) ∧ ok x (t + 1) (h + x t - w t) n
end
section
variable {w O K : Nat → Int}
theorem pre_mono (hw : ∀ t, 0 ≤ w t) {i : Nat} : ∀ {t : Nat}, i ≤ t → pre w i ≤ pre w t
  | 0, h => by obtain rfl : i = 0 := by omega
               exact Int.le_refl _
  | t + 1, h => by
    by_cases e : i = t + 1
    · rw [e]; exact Int.le_refl _
    · have := pre_mono hw (show i ≤ t by omega)
      have := hw t
      show pre w i ≤ pre w t + w t
      omega
theorem sc_cost (x : Nat → Int) : ∀ (n t : Nat), cost w O K x t + sc w O K x t (hv w x t) n = cost w O K x (t + n)
  | 0, t => by simp [sc]
  | n + 1, t => by
    have ih := sc_cost x n (t + 1)
    have e1 : sc w O K x t (hv w x t) (n + 1) = (if 0 < x t then O t else 0) + hv w x (t + 1) * K t + sc w O K x (t + 1) (hv w x (t + 1)) n := rfl
    have e2 : cost w O K x (t + 1) = cost w O K x t + (if 0 < x t then O t else 0) + hv w x (t + 1) * K t := rfl
    rw [show t + (n + 1) = t + 1 + n by omega, ← ih, e1, e2]; omega
/-- without an order what is left falls by what is wanted -/
theorem hv_flat {x : Nat → Int} {i : Nat} : ∀ (t : Nat), i ≤ t → (∀ u, i ≤ u → u < t → x u = 0) → hv w x i = hv w x t + (pre w t - pre w i)
  | 0, h, _ => by obtain rfl : i = 0 := by omega
                  omega
  | t + 1, h, hx => by
    by_cases e : i = t + 1
    · rw [e]; omega
    · have ih := hv_flat t (show i ≤ t by omega) (fun u h1 h2 => hx u h1 (by omega))
      have h0 := hx t (by omega) (by omega)
      have e1 : hv w x (t + 1) = hv w x t + x t - w t := rfl
      have e2 : pre w (t + 1) = pre w t + w t := rfl
      rw [e1, e2, h0]; omega
theorem tail_ge (hK : ∀ t, 0 ≤ K t) {x : Nat → Int} {t : Nat} (hh : 0 ≤ hv w x t) : ∀ (n : Nat), n < t → (∀ u, t - n ≤ u → u < t → x u = 0) → cost w O K x (t - n - 1) + (if 0 < x (t - n - 1) then O (t - n - 1) else 0) + kpN w K t (n + 1) ≤ cost w O K x t
  | 0, hn, _ => by
    obtain ⟨q, rfl⟩ : ∃ q, t = q + 1 := ⟨t - 1, by omega⟩
    have e1 : cost w O K x (q + 1) = cost w O K x q + (if 0 < x q then O q else 0) + hv w x (q + 1) * K q := rfl
    have e2 : kpN w K (q + 1) 1 = 0 + (pre w (q + 1) - pre w (q + 1)) * K q := rfl
    have := Int.mul_nonneg hh (hK q)
    rw [show q + 1 - 0 - 1 = q by omega, e1, e2, Int.sub_self, Int.zero_mul]
    omega
  | n + 1, hn, hx => by
    have ih := tail_ge hK hh n (by omega) (fun u h1 h2 => hx u (by omega) h2)
    have hz := hx (t - n - 1) (by omega) (by omega)
    rw [hz, if_neg (by omega)] at ih
    obtain ⟨q, hq⟩ : ∃ q, t - n - 1 = q + 1 := ⟨t - n - 2, by omega⟩
    have hq2 : t - (n + 1) - 1 = q := by omega
    have hq3 : t - (n + 1) = q + 1 := by omega
    rw [hq] at ih
    have e1 : cost w O K x (q + 1) = cost w O K x q + (if 0 < x q then O q else 0) + hv w x (q + 1) * K q := rfl
    have e2 : kpN w K t (n + 1 + 1) = kpN w K t (n + 1) + (pre w t - pre w (t - (n + 1))) * K (t - (n + 1) - 1) := rfl
    have hf := hv_flat (w := w) (x := x) (i := q + 1) t (by omega) (fun u h1 h2 => hx u (by omega) h2)
    have hm : (pre w t - pre w (q + 1)) * K q ≤ hv w x (q + 1) * K q := Int.mul_le_mul_of_nonneg_right (by omega) (hK q)
    rw [e2, hq2, hq3]
    rw [e1] at ih
    omega
theorem last_order (x : Nat → Int) (hx : ∀ u, 0 ≤ x u) : ∀ t, 0 < t → ∃ i, i < t ∧ (∀ u, i < u → u < t → x u = 0) ∧ (0 < x i ∨ (i = 0 ∧ x 0 = 0))
  | 1, _ => by
    have := hx 0
    exact ⟨0, by omega, fun u h1 h2 => by omega, by by_cases h : 0 < x 0; exact .inl h; exact .inr ⟨rfl, by omega⟩⟩
  | t + 2, _ => by
    by_cases h : 0 < x (t + 1)
    · exact ⟨t + 1, by omega, fun u h1 h2 => by omega, .inl h⟩
    · obtain ⟨i, h1, h2, h3⟩ := last_order x hx (t + 1) (by omega)
      have := hx (t + 1)
      refine ⟨i, by omega, fun u h4 h5 => ?_, h3⟩
      by_cases e : u = t + 1
      · rw [e]; omega
      · exact h2 u h4 (by omega)
/-- what the tables of Plan hold -/
structure Table (w O K : Nat → Int) (k : Nat) (least : Nat → Int) (from' : Nat → Nat) : Prop where
  zero : least 0 = 0
  lt : ∀ t, 0 < t → t ≤ k → from' t < t
  eq : ∀ t, 0 < t → t ≤ k → least t = least (from' t) + blk w O K (from' t) t
  le : ∀ t i, t ≤ k → i < t → least t ≤ least i + blk w O K i t
/-- no plan costs less -/
theorem least_le (hw : ∀ t, 0 ≤ w t) (hO : ∀ t, 0 ≤ O t) (hK : ∀ t, 0 ≤ K t) {k : Nat} {least : Nat → Int} {from' : Nat → Nat} (T : Table w O K k least from') {x : Nat → Int} (hx : ∀ u, 0 ≤ x u) (hf : ∀ t, t ≤ k → 0 ≤ hv w x t) :
    ∀ (m t : Nat), t ≤ m → t ≤ k → least t ≤ cost w O K x t
  | 0, t, hm, _ => by obtain rfl : t = 0 := by omega
                      rw [T.zero]; exact Int.le_refl _
  | m + 1, t, hm, hk => by
    by_cases h0 : t = 0
    · subst h0; rw [T.zero]; exact Int.le_refl _
    · obtain ⟨i, h1, h2, h3⟩ := last_order x hx t (by omega)
      have ih := least_le hw hO hK T hx hf m i (by omega) (by omega)
      have hle := T.le t i hk h1
      have hg := tail_ge (O := O) hK (x := x) (t := t) (hf t hk) (t - i - 1) (by omega) (fun u h4 h5 => h2 u (by omega) h5)
      rw [show t - (t - i - 1) - 1 = i by omega, show t - i - 1 + 1 = t - i by omega] at hg
      unfold blk at hle
      have hi := hO i
      rcases h3 with h3 | ⟨rfl, h3⟩
      · rw [if_pos h3] at hg
        split at hle <;> omega
      · rw [h3, if_neg (by omega)] at hg
        have hfl := hv_flat (w := w) (x := x) (i := 0) t (by omega) (fun u _ h5 => by
          by_cases e : u = 0
          · rw [e]; exact h3
          · exact h2 u (by omega) h5)
        have h4 := hf t hk
        have e0 : hv w x 0 = 0 := rfl
        have hp := pre_mono hw (show 0 ≤ t by omega)
        rw [if_neg (by omega)] at hle
        omega
/-! ### the plan itself, built from the end -/
/-- from t on all is ordered as the table says; nothing ahead of t -/
structure Suffix (w O K : Nat → Int) (k : Nat) (least : Nat → Int) (t : Nat) (x : Nat → Int) : Prop where
  le : t ≤ k
  pos : ∀ u, 0 ≤ x u
  low : ∀ u, u < t → x u = 0
  high : ∀ u, k ≤ u → x u = 0
  ok : ok w x t 0 (k - t)
  cost : sc w O K x t 0 (k - t) = least k - least t
theorem suffix_start (k : Nat) (least : Nat → Int) : Suffix w O K k least k (fun _ => 0) :=
  ⟨Nat.le_refl _, fun _ => Int.le_refl _, fun _ _ => rfl, fun _ _ => rfl, by rw [Nat.sub_self]; rfl, by rw [Nat.sub_self]; simp [sc]⟩
theorem sc_congr {x y : Nat → Int} : ∀ (n t : Nat) (h : Int), (∀ u, t ≤ u → x u = y u) → sc w O K x t h n = sc w O K y t h n
  | 0, _, _, _ => rfl
  | n + 1, t, h, e => by
    unfold sc
    rw [e t (Nat.le_refl _), sc_congr n (t + 1) _ (fun u hu => e u (by omega))]
theorem ok_congr {x y : Nat → Int} : ∀ (n t : Nat) (h : Int), (∀ u, t ≤ u → x u = y u) → ok w x t h n → ok w y t h n
  | 0, _, _, _, k => k
  | n + 1, t, h, e, k => by
    unfold ok at k ⊢
    rw [e t (Nat.le_refl _)] at k
    exact ⟨k.1, k.2.1, ok_congr n (t + 1) _ (fun u hu => e u (by omega)) k.2.2⟩
/-- within a block: what is left ahead of period t - n is what is wanted of it up to t -/
theorem in_block {k : Nat} {x : Nat → Int} {t : Nat} (hw : ∀ t, 0 ≤ w t) (htk : t ≤ k) : ∀ (n : Nat), n ≤ t → (∀ u, t - n ≤ u → u < t → x u = 0) →
    sc w O K x (t - n) (pre w t - pre w (t - n)) (k - (t - n)) = kpN w K t n + sc w O K x t 0 (k - t) ∧ (ok w x t 0 (k - t) → ok w x (t - n) (pre w t - pre w (t - n)) (k - (t - n)))
  | 0, _, _ => by
    rw [show t - 0 = t by omega, Int.sub_self]
    exact ⟨by simp [kpN], fun h => h⟩
  | n + 1, hn, hx => by
    obtain ⟨q, hq⟩ : ∃ q, t - n = q + 1 := ⟨t - n - 1, by omega⟩
    have hq2 : t - (n + 1) = q := by omega
    have hz := hx q (by omega) (by omega)
    obtain ⟨i1, i2⟩ := in_block hw htk n (by omega) (fun u h1 h2 => hx u (by omega) h2)
    have e1 : pre w (q + 1) = pre w q + w q := rfl
    have eh : pre w t - pre w q + x q - w q = pre w t - pre w (q + 1) := by rw [hz, e1]; omega
    obtain ⟨r, hr⟩ : ∃ r, k - q = r + 1 := ⟨k - q - 1, by omega⟩
    have hr2 : k - (q + 1) = r := by omega
    rw [hq, hr2] at i1 i2
    have e2 : kpN w K t (n + 1) = kpN w K t n + (pre w t - pre w (t - n)) * K (t - n - 1) := rfl
    rw [hq2, hr]
    constructor
    · have e3 : sc w O K x q (pre w t - pre w q) (r + 1) = (if 0 < x q then O q else 0) + (pre w t - pre w q + x q - w q) * K q + sc w O K x (q + 1) (pre w t - pre w q + x q - w q) r := rfl
      rw [e3, eh, i1, hz, if_neg (by omega), e2, hq, show q + 1 - 1 = q by omega]; omega
    · intro hok
      have hp := pre_mono hw (show q + 1 ≤ t by omega)
      refine ⟨by rw [eh]; omega, fun _ => by rw [hz]; exact Int.le_refl _, ?_⟩
      rw [eh]; exact i2 hok
theorem Suffix.step (hw : ∀ t, 0 ≤ w t) {k : Nat} {least : Nat → Int} {from' : Nat → Nat} (T : Table w O K k least from') {t : Nat} {x : Nat → Int} (h : Suffix w O K k least t x) (ht : 0 < t) :
    Suffix w O K k least (from' t) (fun u => if u = from' t then pre w t - pre w (from' t) else x u) := by
  have hlt := T.lt t ht h.le
  have heq := T.eq t ht h.le
  have hle := h.le
  obtain ⟨i, hi⟩ : ∃ i, i = from' t := ⟨_, rfl⟩
  rw [← hi] at hlt heq ⊢
  have hp := pre_mono hw (show i ≤ t by omega)
  have hx0 : ∀ u, t - (t - i - 1) ≤ u → u < t → (fun u => if u = i then pre w t - pre w i else x u) u = 0 := fun u h1 h2 => by
    show (if u = i then _ else x u) = 0
    rw [if_neg (by omega)]; exact h.low u h2
  obtain ⟨b1, b2⟩ := in_block (O := O) (K := K) (k := k) hw hle (t - i - 1) (by omega) hx0
  have hsame : ∀ u, t ≤ u → (fun u => if u = i then pre w t - pre w i else x u) u = x u := fun u hu => by
    show (if u = i then _ else x u) = _
    rw [if_neg (by omega)]
  rw [sc_congr _ _ _ hsame, h.cost] at b1
  have b2' := b2 (ok_congr _ _ _ (fun u hu => (hsame u hu).symm) h.ok)
  rw [show t - (t - i - 1) = i + 1 by omega] at b1 b2'
  obtain ⟨r, hr⟩ : ∃ r, k - i = r + 1 := ⟨k - i - 1, by omega⟩
  have hr2 : k - (i + 1) = r := by omega
  rw [hr2] at b1 b2'
  have e1 : pre w (i + 1) = pre w i + w i := rfl
  have exi : (fun u => if u = i then pre w t - pre w i else x u) i = pre w t - pre w i := if_pos rfl
  have eh : (0 : Int) + (fun u => if u = i then pre w t - pre w i else x u) i - w i = pre w t - pre w (i + 1) := by rw [exi, e1]; omega
  have hp2 := pre_mono hw (show i + 1 ≤ t by omega)
  refine ⟨by omega, fun u => ?_, fun u hu => ?_, fun u hu => ?_, ?_, ?_⟩
  · show 0 ≤ (if u = i then _ else x u)
    split
    · omega
    · exact h.pos u
  · show (if u = i then _ else x u) = 0
    rw [if_neg (by omega)]; exact h.low u (by omega)
  · show (if u = i then _ else x u) = 0
    rw [if_neg (by omega)]; exact h.high u hu
  · rw [hr]
    refine ⟨by rw [eh]; omega, fun hc => by omega, ?_⟩
    rw [eh]; exact b2'
  · rw [hr]
    have e3 : sc w O K (fun u => if u = i then pre w t - pre w i else x u) i 0 (r + 1) = (if 0 < (fun u => if u = i then pre w t - pre w i else x u) i then O i else 0) + (0 + (fun u => if u = i then pre w t - pre w i else x u) i - w i) * K i + sc w O K (fun u => if u = i then pre w t - pre w i else x u) (i + 1) (0 + (fun u => if u = i then pre w t - pre w i else x u) i - w i) r := rfl
    rw [e3, eh, b1, exi, heq]
    unfold blk
    have ek : kpN w K t (t - i) = kpN w K t (t - i - 1) + (pre w t - pre w (i + 1)) * K i := by
      rw [show t - i = (t - i - 1) + 1 by omega]
      show kpN w K t (t - i - 1) + (pre w t - pre w (t - (t - i - 1))) * K (t - (t - i - 1) - 1) = _
      rw [show t - (t - i - 1) = i + 1 by omega, show i + 1 - 1 = i by omega]; rfl
    rw [ek]
    omega
end
end Go.Proofs.Ytimohdhmglpleaa.LotsM
