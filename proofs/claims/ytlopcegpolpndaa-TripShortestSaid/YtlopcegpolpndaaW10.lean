/- trip.Near: some round way over all places. -/
import Derived.Test.YtlopcegpolpndaaW9
namespace Go.Proofs.Ytlopcegpolpndaa
open Go.RowKit PermM TripM

def vals (l : List Nat) : List Value := l.map fun (x : Nat) => Value.int .i64 (x : Int)
theorem own_ints {w : World} {base : Nat} {v : Value} {l : List Nat} (h : w.ownsRow base 3 1 v l.length (vals l)) : ∃ A cap, v = .slice A l.length cap ∧ IntsAt w A (ints l) ∧ l.length ≤ cap ∧ cap ≤ maxLen := by
  have h' : w.ownsRow base 3 1 v (l.map fun (x : Nat) => Value.int .i64 (x : Int)).length (l.map fun (x : Nat) => Value.int .i64 (x : Int)) := by rw [vals_len]; exact h
  obtain ⟨A, cap, hv, hc, hm, ho⟩ := own_row h'
  rw [vals_len] at hv hc ho
  refine ⟨A, cap, hv, fun k hk => ?_, hc, hm⟩
  rw [ints_len] at hk
  obtain ⟨g, f, hA, _, hr, hf⟩ := ho (by omega)
  refine ⟨g, 0, hA, hr.lt, fun i x hx => ?_⟩
  have hi := (List.getElem?_eq_some_iff.1 hx).1
  rw [ints_len] at hi
  rw [Nat.zero_add, hr.cell (by omega), hf i hi, vals_getD l i hi]
  unfold natsV
  unfold Ytlopcegpolpndaa.ints at hx
  rw [List.getElem?_map, List.getElem?_eq_getElem hi] at hx
  simp at hx
  rw [List.getD_eq_getElem?_getD, List.getElem?_eq_getElem hi]
  simp [hx]
theorem mem_ints {l : List Nat} {k : Nat} : ((k : Int) ∈ ints l) ↔ k ∈ l := by
  unfold Ytlopcegpolpndaa.ints
  rw [List.mem_map]
  constructor
  · rintro ⟨x, hx, he⟩
    obtain rfl : x = k := by omega
    exact hx
  · exact fun h => ⟨k, h, rfl⟩

def NearPost (m : List (List Int)) (w : World) (e : Ending) (w' : World) : Prop :=
  w.Since w.heap.size w' ∧ ∃ A cap l, e = .returned (.tuple #[.slice A m.length cap, .nilIface]) ∧ IntsAt w' A (ints l) ∧ IsPerm m.length l
set_option maxHeartbeats 4000000 in
set_option maxRecDepth 100000 in
theorem Near_ok {A : Option Addr} {cap : Nat} {m : List (List Int)} {w : World} (h : MapAt w A m) (t : MapOk m) :
    Calls Try.prog 12 #[.slice A m.length cap] w (NearPost m w) := by
  have hfew := t.few
  obtain ⟨i0, hi0, hz0, hz1, hz2⟩ := info_parts info_int
  have Hi0 := Lib.hid hi0
  have Hz0 := Lib.hid hz0
  have Hz1 := Lib.hid hz1
  have Hz2 := Lib.hid hz2
  clear hi0 hz0 hz1 hz2
  go_enter Try.func12, Try.ntmps12
  go_wp2_with fail
  refine (Check_ok h t).mono ?_
  rintro e w0 ⟨rfl, rfl⟩
  go_wp2
  go_loopg [5] m.length (fun g v wr => ∃ (l : List Nat) (A2 : Option Addr) (c2 : Nat), v = .slice A2 l.length c2 ∧ l.length ≤ m.length ∧ g = m.length - l.length ∧ w.Since w.heap.size wr ∧ wr.ownsRow w.heap.size 3 1 (.slice A2 l.length c2) l.length (vals l) ∧ IntsAt wr A2 (ints l) ∧ Hid (l.Nodup ∧ ∀ x ∈ l, x < m.length))
  case atStart => exact ⟨[], none, 0, rfl, Nat.zero_le _, rfl, World.Since.refl _ _, World.ownsRow_nil _ _ _ _, fun k hk => absurd hk (by simp [Ytlopcegpolpndaa.ints]), Lib.hid ⟨by simp, by simp⟩⟩
  case round =>
    obtain ⟨l, A2, c2, rfl, hlm, rfl, hs, hown, hI, HP⟩ := hrel
    by_cases hlt : l.length < m.length
    · have hltz : (l.length : Int) < (m.length : Int) := by omega
      go_wp2
      go_loopg [6, 20] m.length (fun g b k wr => ∃ (q : Nat) (bv : Int), q ≤ m.length ∧ g = m.length - q ∧ k = .int .i64 q ∧ b = .int .i64 bv ∧ -1 ≤ bv ∧ bv < m.length ∧ w.Since w.heap.size wr ∧ wr.ownsRow w.heap.size 3 1 (.slice A2 l.length c2) l.length (vals l) ∧ IntsAt wr A2 (ints l) ∧ Hid ((bv = -1 → ∀ j, j < q → j ∈ l) ∧ (bv ≠ -1 → ∃ j : Nat, bv = j ∧ j ∉ l)))
      case atStart => exact ⟨0, -1, Nat.zero_le _, rfl, rfl, rfl, by omega, by omega, hs, hown, hI, Lib.hid ⟨fun _ j hj => by omega, fun h => absurd rfl h⟩⟩
      case round =>
        clear hs hown hI
        obtain ⟨q, bv, hq, rfl, rfl, rfl, hb0, hb1, hs, hown, hI, HB⟩ := hrel
        by_cases hqn : q < m.length
        · have hqz : (q : Int) < (m.length : Int) := by omega
          have C1 : ∀ n, Calls Try.prog 17 #[.slice A2 l.length c2, .int .i64 (q : Nat)] (wr.drewN n) fun e w' => e = .returned (.bool (decide ((q : Int) ∈ ints l))) ∧ wr.drewN n = w' := fun n => by
            have := Contains_any A2 c2 (ints l) (q : Int) (wr.drewN n) hI (by rw [ints_len]; omega)
            rw [ints_len] at this
            exact this
          have hown' : ∀ n, (wr.drewN n).ownsRow w.heap.size 3 1 (.slice A2 l.length c2) l.length (vals l) := fun _ => hown
          have hI' : ∀ n, IntsAt (wr.drewN n) A2 (ints l) := fun _ => hI
          obtain ⟨c, hc⟩ : ∃ c, c = decide ((q : Int) ∈ ints l) := ⟨_, rfl⟩
          rw [← hc] at C1
          have Hc := Lib.hid hc
          have D1 := Lib.hid C1
          clear hc C1
          have hkeep : (c = true ∨ bv ≠ -1) → ((bv = -1 → ∀ j, j < q + 1 → j ∈ l) ∧ (bv ≠ -1 → ∃ j : Nat, bv = j ∧ j ∉ l)) := fun hh => by
            refine ⟨fun e j hj => ?_, HB.out.2⟩
            by_cases ej : j = q
            · subst ej
              rcases hh with hh | hh
              · rw [Hc.out] at hh; exact mem_ints.1 (by simpa using hh)
              · exact absurd e hh
            · exact HB.out.1 e j (by omega)
          have hnew : c = false → (((q : Int) = -1 → ∀ j, j < q + 1 → j ∈ l) ∧ ((q : Int) ≠ -1 → ∃ j : Nat, (q : Int) = j ∧ j ∉ l)) := fun hh => by
            refine ⟨fun e => by omega, fun _ => ⟨q, rfl, fun hm => ?_⟩⟩
            rw [Hc.out] at hh
            have := mem_ints.2 hm
            simp [this] at hh
          have Hk := Lib.hid hkeep
          have Hn := Lib.hid hnew
          clear hkeep hnew
          cases c with
          | true =>
            go_wp2
            go_quiet (with_reducible exact quietc (D1.out _))
            go_wp2
            go_roundg (m.length - (q + 1))
            case measure => go_light; omega
            case rel =>
              go_light
              exact ⟨q + 1, bv, by omega, rfl, by go_num, rfl, hb0, hb1, since_drewN hs _, hown' _, hI' _, Lib.hid (Hk.out (.inl (by trivial)))⟩
          | false =>
            by_cases hbv : bv = -1
            · subst hbv
              go_wp2
              go_quiet (with_reducible exact quietc (D1.out _))
              go_wp2
              go_roundg (m.length - (q + 1))
              case measure => go_light; omega
              case rel =>
                go_light
                exact ⟨q + 1, q, by omega, rfl, by go_num, rfl, by omega, by omega, since_drewN hs _, hown' _, hI' _, Lib.hid (Hn.out (by trivial))⟩
            · have hb00 : 0 ≤ bv := by omega
              have hbf : decide (bv < 0) = false := by simpa using hb00
              by_cases hl0 : 0 < l.length
              · have hl0z : (0 : Int) < (l.length : Int) := by omega
                obtain ⟨b2, off2, rfl, hb2, hc2⟩ := ints_at hI hl0
                obtain ⟨p, hp⟩ : ∃ p, l[l.length - 1]? = some p := ⟨l[l.length - 1], List.getElem?_eq_getElem (by omega)⟩
                have hpn := HP.out.2 p (List.mem_of_getElem? hp)
                have hpz : (p : Int) < (m.length : Int) := by omega
                have c0 := hc2 _ p hp
                obtain ⟨bn, rfl⟩ := Int.eq_ofNat_of_zero_le hb00
                have hm2 := h.since hs
                obtain ⟨b, off, A1, c1, rfl, hb, ga, hga⟩ := t.at_ hm2 hpn
                obtain ⟨b1, off1, rfl, hb1', gb⟩ := hga q hqn
                obtain ⟨b1', off1', hAA, _, gd⟩ := hga bn (by omega)
                injection hAA with hAA; injection hAA with e1 e2; subst e1 e2
                clear hga hc2 hp
                generalize dOf m p q = x1 at *
                generalize dOf m p bn = x2 at *
                have hl1 : (l.length : Int) - 1 < (l.length : Int) := by omega
                have hl2 : 0 ≤ (l.length : Int) - 1 := by omega
                by_cases hless : x1 < x2
                · go_wp2
                  go_quiet (with_reducible exact quietc (D1.out _))
                  go_wp2
                  go_roundg (m.length - (q + 1))
                  case measure => go_light; omega
                  case rel =>
                    go_light
                    exact ⟨q + 1, q, by omega, rfl, by go_num, rfl, by omega, by omega, since_drewN hs _, hown' _, hI' _, Lib.hid (Hn.out (by trivial))⟩
                · have hless' : decide (x1 < x2) = false := by simpa using hless
                  go_wp2
                  go_quiet (with_reducible exact quietc (D1.out _))
                  go_wp2
                  go_roundg (m.length - (q + 1))
                  case measure => go_light; omega
                  case rel =>
                    go_light
                    exact ⟨q + 1, bn, by omega, rfl, by go_num, rfl, by omega, hb1, since_drewN hs _, hown' _, hI' _, Lib.hid (Hk.out (.inr hbv))⟩
              · have hl0f : decide ((0 : Int) < (l.length : Int)) = false := decide_eq_false (by omega)
                have hl0f' : decide (0 < l.length) = false := decide_eq_false hl0
                go_wp2
                go_quiet (with_reducible exact quietc (D1.out _))
                go_wp2
                go_roundg (m.length - (q + 1))
                case measure => go_light; omega
                case rel =>
                  go_light
                  exact ⟨q + 1, bv, by omega, rfl, by go_num, rfl, hb0, hb1, since_drewN hs _, hown' _, hI' _, Lib.hid (Hk.out (.inr hbv))⟩
        · obtain rfl : m.length = q := by omega
          have hne : bv ≠ -1 := fun e => by
            have := sub_len (List.range m.length) l List.nodup_range (fun x hx => HB.out.1 e x (List.mem_range.1 hx))
            rw [List.length_range] at this
            omega
          obtain ⟨j, rfl, hj⟩ := HB.out.2 hne
          have Hj := Lib.hid hj
          have hown7 := hown.alloc (.cells #[.int .i64 (j : Nat)] 3)
          have hs7 := hs.alloc hs.size (.cells #[.int .i64 (j : Nat)] 3)
          clear hj
          go_wp2_with (at_builtin; refine wpList_append_own _ rfl _ _ 23 rfl w.heap.size 3 i0 (.int .i64 0) 1 8 Try.underlying23 Hi0.out Hz0.out Hz1.out Hz2.out rfl (by decide) _ _ _ rfl hown7 ⟨wr.heap.size, 0, none⟩ 1 1 [.int .i64 (j : Nat)] rfl rfl (one_new _ _ _) (by intro u hu; simp at hu; subst hu; rfl) (by unfold maxLen; omega) (by omega) hs7.size ?_; intro v8 w8 hown8 hg8 _)
          have hs8 : w.Since w.heap.size w8 := own_since hs7 hown7 hg8 hs7.size
          have hown9 : w8.ownsRow w.heap.size 3 1 v8 (l ++ [j]).length (vals (l ++ [j])) := by simpa [vals] using hown8
          obtain ⟨A3, c3, rfl, hI3, _, _⟩ := own_ints hown9
          clear hown7 hs7 hown8 hg8
          go_wp2
          go_roundg (m.length - (l ++ [j]).length)
          case measure => go_light; simp; omega
          case rel =>
            go_light
            refine ⟨l ++ [j], A3, c3, rfl, by simp; omega, rfl, hs8, hown9, hI3, Lib.hid ⟨?_, fun x hx => ?_⟩⟩
            · rw [List.nodup_append]
              refine ⟨HP.out.1, by simp, fun a ha b hb e => ?_⟩
              simp at hb; subst hb; subst e; exact Hj.out ha
            · rcases List.mem_append.1 hx with hx | hx
              · exact HP.out.2 x hx
              · simp at hx; omega
    · have hle : l.length = m.length := by omega
      have hltf : decide ((l.length : Int) < (m.length : Int)) = false := decide_eq_false (by omega)
      go_wp2
      go_ret2
      exact ⟨hs, A2, c2, l, by rw [hle]; rfl, hI, ⟨hle, HP.out.1, HP.out.2⟩⟩
end Go.Proofs.Ytlopcegpolpndaa
