/- numbers; a map of ways as it comes in. -/
import Derived.Test.YtlopcegpolpndaaW6
import Derived.Test.YtlopcegpolpndaaArgs
import Derived.SizedLaws
namespace Go.Proofs.Ytlopcegpolpndaa
open Go.RowKit PermM TripM

def NumPost (m : List (List Int)) (w : World) (e : Ending) (w' : World) : Prop := w = w' ∧ ∃ r : Int, e = .returned (.int .i64 r) ∧ (MapOk m → r = (m.length : Int) + m.length * m.length)
set_option maxHeartbeats 2000000 in
theorem numbers_any {A : Option Addr} {cap : Nat} {m : List (List Int)} {w : World} (h : MapAt w A m) (hlen : m.length ≤ 9223372036854775807) (hrl : ∀ r ∈ m, r.length ≤ 9223372036854775807) :
    Calls Try.prog 6 #[.slice A m.length cap] w (NumPost m w) := by
  go_enter Try.func6, Try.ntmps6
  go_wp2
  go_loopg [3, 4] m.length (fun g s i wr => ∃ (k : Nat) (v : Int), k ≤ m.length ∧ g = m.length - k ∧ i = .int .i64 k ∧ s = .int .i64 v ∧ w = wr ∧ Hid (MapOk m → v = (m.length : Int) + k * m.length))
  case atStart => exact ⟨0, m.length, Nat.zero_le _, rfl, rfl, rfl, rfl, Lib.hid (fun _ => by simp)⟩
  case round =>
    obtain ⟨k, v, hk, rfl, rfl, rfl, rfl, hV⟩ := hrel
    by_cases hkl : k < m.length
    · have hkz : (k : Int) < (m.length : Int) := by omega
      obtain ⟨b, off, rfl, hb, hc⟩ := h k hkl
      obtain ⟨r, hr⟩ : ∃ r, m[k]? = some r := ⟨m[k], List.getElem?_eq_getElem hkl⟩
      obtain ⟨A', c', h0, hI⟩ := hc k r hr
      have hrl1 := hrl r (List.mem_of_getElem? hr)
      have Hr := Lib.hid hr
      clear hr hc
      go_wp2
      go_roundg (m.length - (k + 1))
      case measure => go_light; omega
      case rel =>
        go_light
        refine ⟨k + 1, wrap64 (v + r.length), by omega, rfl, by go_num, rfl, rfl, Lib.hid (fun t => ?_)⟩
        have h1 := hV.out t
        have h2 := t.row r (List.mem_of_getElem? Hr.out)
        have h3 := t.few
        have h4 : (k : Int) * m.length ≤ 9 * 9 := by
          have := Nat.mul_le_mul (show k ≤ 9 by omega) h3
          exact_mod_cast this
        have h5 : 0 ≤ (k : Int) * m.length := by
          have := Nat.zero_le (k * m.length)
          exact_mod_cast this
        have h6 : ((k + 1 : Nat) : Int) * m.length = (k : Int) * m.length + m.length := by
          rw [Int.natCast_add, Int.add_mul]; simp
        rw [h6, h1, h2]
        generalize (k : Int) * m.length = p at *
        unfold wrap64
        omega
    · obtain rfl : m.length = k := by omega
      go_wp2
      go_ret
      exact ⟨rfl, v, rfl, hV.out⟩

section
open Go.ChangeShapes Go.WideShapes Go.ChangeAt Go.Deep
variable {H : Type} {enc : TypeId × Value → H} {P : Program} {w : World} {base : Nat} {spare : Nat → Bool} {held : Bool}
/-- a slice of slices of ints that comes in -/
theorem rows_of {t e f : TypeId} {a : Option Addr} {len cap : Nat} {d : DataW H} {p : List MemPlace} (ht : P.underlying t = some (.slice e)) (he : P.underlying e = some (.slice f)) (hf : P.underlying f = some (.int .i64)) (hce : P.cellsOf e = 1) (hc : P.cellsOf f = 1)
    (h : DataW.Trod enc P w base (fun _ => true) held t (.slice a len cap) d p) :
    ∃ m : List (List Int), m.length = len ∧ len ≤ cap ∧ cap ≤ maxLen ∧ MapAt w a m ∧ (∀ r ∈ m, r.length ≤ maxLen) ∧ (len = 0 ∨ ∃ el sp, d = .slice el sp ∧ el.length + sp.length = cap) := by
  obtain ⟨fuel, hfu⟩ := h
  rcases open_slice1 ht hce hfu with ⟨hcs, _⟩ | ⟨a', len', cap', m, n, V, D, Pl, hcs, _, hl, hm, hmm, hd, hx⟩
  · simp [Value.cells] at hcs
    obtain ⟨rfl, rfl, rfl⟩ := hcs
    exact ⟨[], rfl, Nat.le_refl _, by unfold maxLen; omega, fun k hk => absurd hk (by simp), by simp, .inl rfl⟩
  · simp [Value.cells] at hcs
    obtain ⟨rfl, rfl, rfl⟩ := hcs
    simp only [if_true] at hmm
    subst hmm
    obtain ⟨xs, hxl, hxs⟩ := list_of len (fun i (r : List Int) => ∃ A' c, w.cell? (a'.add i) = some (.slice A' r.length c) ∧ IntsAt w A' r ∧ r.length ≤ maxLen) (fun i hi => by
      obtain ⟨h1, h2⟩ := hx i (by omega)
      have h3 := open_slice1 he hc h2
      have hV : ∃ A' l' c', V i = .slice A' l' c' := by
        rcases h3 with ⟨hcs, _⟩ | ⟨b', l', c', _, _, _, _, _, hcs, _⟩
        · simp at hcs; exact ⟨_, _, _, hcs⟩
        · simp at hcs; exact ⟨_, _, _, hcs⟩
      obtain ⟨A', l', c', hV⟩ := hV
      rw [hV] at h1 h2
      obtain ⟨r, hrl, hle, hcm, hI, _⟩ := ints_of he hf hc (show DataW.Trod enc P w base (fun _ => true) held e (.slice A' l' c') (D i) (Pl i) from ⟨n, h2⟩)
      exact ⟨r, A', c', by rw [hrl]; exact h1, hI, by rw [hrl]; exact Nat.le_trans hle hcm⟩)
    refine ⟨xs, hxl, hl, hm, fun k hk => ?_, fun x hx => ?_, .inr ⟨_, _, congrArg Prod.fst (Option.some.inj (congrArg some hd)), ?_⟩⟩
    · obtain ⟨_, _, h0, _⟩ := hxs 0 _ (List.getElem?_eq_getElem (by omega))
      have ha := spot_none (a := a') (by simpa [Addr.add] using h0)
      rw [ha]
      rw [ha, add_plain] at h0
      refine ⟨a'.block, a'.off, rfl, cell_lt h0, fun k x hx => ?_⟩
      obtain ⟨A', c, h1, h2, _⟩ := hxs k x hx
      rw [ha, add_plain] at h1
      exact ⟨A', c, h1, h2⟩
    · obtain ⟨i, hi, he⟩ := List.getElem_of_mem hx
      obtain ⟨_, _, _, _, h3⟩ := hxs i x (by rw [List.getElem?_eq_getElem hi, he])
      exact h3
    · simp; omega
end
end Go.Proofs.Ytlopcegpolpndaa
