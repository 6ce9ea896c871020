/- trip: what a tour carries (Savings$2). -/
import Derived.Test.YtlopcegpolpndaaS2
import Derived.Test.YtlopcegpolpndaaSavedM
namespace Go.Proofs.Ytlopcegpolpndaa
open Go.RowKit

def natsZ (l : List Nat) : List Int := l.map (fun (i : Nat) => (i : Int))
theorem natsZ_len (l : List Nat) : (natsZ l).length = l.length := by simp [natsZ]
def wF (ws : List Int) (i : Nat) : Int := ws.getD i 0
theorem load_take {ws : List Int} {t : List Nat} {k p : Nat} (h : t[k]? = some p) : SavedM.load (wF ws) (t.take (k + 1)) = SavedM.load (wF ws) (t.take k) + wF ws p := by
  obtain ⟨hk, he⟩ := List.getElem?_eq_some_iff.1 h
  rw [List.take_succ_eq_append_getElem hk, he, SavedM.load_append]
  show _ + (wF ws p + 0) = _
  omega
theorem load_bd {ws : List Int} (h0 : ∀ i, 0 ≤ wF ws i ∧ wF ws i ≤ 1000000000) : ∀ t : List Nat, 0 ≤ SavedM.load (wF ws) t ∧ SavedM.load (wF ws) t ≤ 1000000000 * (t.length : Int)
  | [] => by simp [SavedM.load]
  | p :: t => by
    have h1 := load_bd h0 t
    have h2 := h0 p
    show 0 ≤ wF ws p + SavedM.load (wF ws) t ∧ wF ws p + SavedM.load (wF ws) t ≤ _
    rw [List.length_cons]
    omega
def LoadPost (ws : List Int) (t : List Nat) (W : World) (e : Ending) (w' : World) : Prop := e = .returned (.int .i64 (SavedM.load (wF ws) t)) ∧ W = w'
set_option maxHeartbeats 2000000 in
theorem load_any {T Wt : Option Addr} {cap capw p4 : Nat} {ws : List Int} {t : List Nat} {W : World} (hT : IntsAt W T (natsZ t)) (hW : IntsAt W Wt ws) (hc : W.cell? ⟨p4, 0, none⟩ = some (.slice Wt ws.length capw))
    (hlt : ∀ p ∈ t, p < ws.length) (h0 : ∀ i, 0 ≤ wF ws i ∧ wF ws i ≤ 1000000000) (hl : t.length ≤ 1000) :
    Calls Try.prog 25 #[.slice T t.length cap, .pointer (some ⟨p4, 0, none⟩)] W (LoadPost ws t W) := by
  have HT := Lib.hid hT
  have HW := Lib.hid hW
  have H0 := Lib.hid h0
  have HL := Lib.hid hlt
  clear hT hW h0 hlt
  go_enter Try.func25, Try.ntmps25
  go_wp2
  go_loopg [4, 9] t.length (fun gh sv iv wr => ∃ (k : Nat) (s : Int), k ≤ t.length ∧ gh = t.length - k ∧ iv = .int .i64 (k : Int) ∧ sv = .int .i64 s ∧ Hid (s = SavedM.load (wF ws) (t.take k)) ∧ W = wr)
  case atStart => exact ⟨0, 0, Nat.zero_le _, rfl, rfl, rfl, Lib.hid rfl, rfl⟩
  case round =>
    obtain ⟨k, s, hk, rfl, rfl, rfl, hs, rfl⟩ := hrel
    by_cases hkl : k < t.length
    · have hkz : (k : Int) < (t.length : Int) := by omega
      obtain ⟨p, hp⟩ : ∃ p, t[k]? = some p := ⟨t[k], List.getElem?_eq_getElem hkl⟩
      obtain ⟨b, off, rfl, _, hcc⟩ := HT.out k (by rw [natsZ_len]; exact hkl)
      have d0 := hcc k (p : Int) (by unfold natsZ; rw [List.getElem?_map, hp]; rfl)
      have hpl := HL.out p (List.mem_of_getElem? hp)
      have hpz : (p : Int) < (ws.length : Int) := by omega
      obtain ⟨b2, off2, rfl, _, hc2⟩ := HW.out p hpl
      have d1 := hc2 p (wF ws p) (by unfold wF; rw [List.getD_eq_getElem?_getD, List.getElem?_eq_getElem hpl]; rfl)
      obtain ⟨a1, a2⟩ := H0.out p
      obtain ⟨s1, s2⟩ := load_bd H0.out (t.take k)
      rw [← hs.out, List.length_take, Nat.min_eq_left hk] at s2
      rw [← hs.out] at s1
      have s3 : s ≤ 1000000000000 := by omega
      have hn := load_take (ws := ws) hp
      rw [← hs.out] at hn
      have Hn := Lib.hid hn
      generalize wF ws p = q at *
      clear hp hcc hc2 hn s2
      go_wp2
      go_roundg (t.length - (k + 1))
      case measure => go_light; omega
      case rel => go_light; exact ⟨k + 1, s + q, by omega, rfl, by go_num, rfl, Lib.hid Hn.out.symm, rfl⟩
    · obtain rfl : t.length = k := by omega
      have hv := hs.out
      rw [List.take_length] at hv
      have Hv := Lib.hid hv
      clear hv
      go_wp2
      go_ret
      exact ⟨by rw [Hv.out]; rfl, rfl⟩
end Go.Proofs.Ytlopcegpolpndaa
