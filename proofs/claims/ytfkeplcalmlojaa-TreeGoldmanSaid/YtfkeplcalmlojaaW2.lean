/- tree.Check answers nil just where TreeOk holds. -/
import Derived.Test.YtfkeplcalmlojaaW1
namespace Go.Proofs.Ytfkeplcalmlojaa
open Go.RowKit TreeM

theorem since_mono {w w' : World} {B C : Nat} (h : w.Since C w') (hB : B ≤ C) : w.Since B w' := ⟨h.os, h.tape, h.output, h.size, fun k hk => h.block k (Nat.lt_of_lt_of_le hk hB)⟩
theorem since_join {a w w' : World} (h : a.Since a.heap.size w) (k : w.Since w.heap.size w') : a.Since a.heap.size w' := h.trans (since_mono k h.size)
/-- an edge as it comes in -/
structure RE where
  a : Int
  b : Int
  l : Int
def RE.ed (r : RE) : Ed := ⟨r.a.toNat, r.b.toNat, r.l⟩
def RE.ok (n : Int) (r : RE) : Prop := 0 ≤ r.a ∧ r.a < n ∧ 0 ≤ r.b ∧ r.b < n ∧ 0 ≤ r.l ∧ r.l ≤ 1000000000
/-- a slice of edges reads as a list, whatever the numbers -/
def RawAt (w : World) (A : Option Addr) (rs : List RE) : Prop :=
  ∀ k, k < rs.length → ∃ b off, A = some ⟨b, off, none⟩ ∧ b < w.heap.size ∧ ∀ (k : Nat) (r : RE), rs[k]? = some r →
    w.cell? ⟨b, off + k * 3, none⟩ = some (.int .i64 r.a) ∧ w.cell? ⟨b, off + k * 3 + 1, none⟩ = some (.int .i64 r.b) ∧ w.cell? ⟨b, off + k * 3 + 2, none⟩ = some (.int .i64 r.l)
theorem RawAt.since {w wr : World} {A : Option Addr} {rs : List RE} (h : RawAt w A rs) {B : Nat} (hB : w.heap.size ≤ B) (hs : w.Since B wr) : RawAt wr A rs := fun k hk => by
  obtain ⟨b, off, hA, hb, hc⟩ := h k hk
  have := hs.size
  refine ⟨b, off, hA, by omega, fun k x hx => ?_⟩
  obtain ⟨h0, h1, h2⟩ := hc k x hx
  exact ⟨(hs.cell (show b < B by omega)).trans h0, (hs.cell (show b < B by omega)).trans h1, (hs.cell (show b < B by omega)).trans h2⟩
theorem RawAt.eds {w : World} {A : Option Addr} {rs : List RE} {n : Int} (h : RawAt w A rs) (hok : ∀ r ∈ rs, r.ok n) : EdsAt w A (rs.map RE.ed) := fun k hk => by
  obtain ⟨b, off, hA, hb, hc⟩ := h k (by simpa using hk)
  refine ⟨b, off, hA, hb, fun k e he => ?_⟩
  rw [List.getElem?_map, Option.map_eq_some_iff] at he
  obtain ⟨r, hr, rfl⟩ := he
  obtain ⟨o1, o2, o3, o4, o5, o6⟩ := hok r (List.mem_of_getElem? hr)
  obtain ⟨h0, h1, h2⟩ := hc k r hr
  refine ⟨?_, ?_, h2⟩
  · rw [h0]; simp [RE.ed, Int.toNat_of_nonneg o1]
  · rw [h1]; simp [RE.ed, Int.toNat_of_nonneg o3]
theorem good_of {rs : List RE} {n : Nat} (hok : ∀ r ∈ rs, r.ok n) : TreeM.Good n (rs.map RE.ed) := fun e he => by
  obtain ⟨r, hr, rfl⟩ := List.mem_map.1 he
  obtain ⟨o1, o2, o3, o4, o5, o6⟩ := hok r hr
  refine ⟨?_, ?_, o5⟩ <;> simp only [RE.ed] <;> omega
theorem max_of {rs : List RE} {n : Nat} (hok : ∀ r ∈ rs, r.ok n) : ∀ e ∈ rs.map RE.ed, e.l ≤ 1000000000 := fun e he => by
  obtain ⟨r, hr, rfl⟩ := List.mem_map.1 he
  exact (hok r hr).2.2.2.2.2

/-- what Check asks -/
structure TreeOk (places : Int) (rs : List RE) : Prop where
  lo : 1 ≤ places
  hi : places ≤ 60
  len : (rs.length : Int) = places - 1
  ok : ∀ r ∈ rs, r.ok places
  all : (-1 : Int) ∉ frm places.toNat (rs.map RE.ed) 0

/-- an error's value: nil just where c is none -/
def errV : Option Int → Value
  | none => .nilIface
  | some k => .iface 45 (.int .i64 k)

theorem frm_len {n : Nat} {rs : List RE} (hok : ∀ r ∈ rs, r.ok n) (r : Nat) : (frm n (rs.map RE.ed) r).length = n := (frm_closed n _ (good_of hok) r).2

theorem FS.ints {w wr : World} {n : Nat} {xs : List Int} (hn : xs.length = n) (h : FS w wr n (fun i => xs.getD i 0)) : IntsAt wr (some ⟨w.heap.size, 0, none⟩) xs :=
  IntsAt.row hn.symm (fun _ _ => rfl) h.row

/-- what Check hands back -/
def ChkPost (places : Int) (rs : List RE) (w : World) (e : Ending) (w' : World) : Prop :=
  w.Since w.heap.size w' ∧ ∃ c : Option Int, e = .returned (errV c) ∧ (c = none ↔ TreeOk places rs)
theorem ChkPost.bad {places : Int} {rs : List RE} {w w' : World} (k : Int) (hs : w.Since w.heap.size w') (h : ¬ TreeOk places rs) : ChkPost places rs w (.returned (.iface 45 (.int .i64 k))) w' :=
  ⟨hs, some k, rfl, by simp [h]⟩

set_option maxHeartbeats 2000000 in
theorem Check_any (places : Int) (A : Option Addr) (cap : Nat) (rs : List RE) (w : World) (h : RawAt w A rs) (hlen : rs.length ≤ 1000000000) :
    Calls Try.prog 13 #[.int .i64 places, .slice A rs.length cap] w (ChkPost places rs w) := by
  by_cases p1 : places < 1
  · go_enter Try.func13, Try.ntmps13
    go_wp2
    go_ret
    exact ChkPost.bad 4 (World.Since.refl _ _) (fun t => by have := t.lo; omega)
  by_cases p2 : 60 < places
  · go_enter Try.func13, Try.ntmps13
    go_wp2
    go_ret
    exact ChkPost.bad 4 (World.Since.refl _ _) (fun t => by have := t.hi; omega)
  obtain ⟨n, rfl⟩ := Int.eq_ofNat_of_zero_le (show 0 ≤ places by omega)
  have pn1 : 1 ≤ n := by omega
  have pn2 : n ≤ 60 := by omega
  by_cases p3 : rs.length = n - 1
  case neg =>
    have pb : ((rs.length : Int) != (n : Int) - 1) = true := by rw [bne_iff_ne]; omega
    go_enter Try.func13, Try.ntmps13
    go_wp2
    go_ret
    exact ChkPost.bad 3 (World.Since.refl _ _) (fun t => by have := t.len; omega)
  have pb : ((rs.length : Int) != (n : Int) - 1) = false := by rw [bne_eq_false_iff_eq]; omega
  have P3 := Lib.hid p3
  clear p3
  go_enter Try.func13, Try.ntmps13
  go_wp2
  clear pb
  go_loopg [22] rs.length (fun g i wr => ∃ k : Nat, k ≤ rs.length ∧ g = rs.length - k ∧ i = .int .i64 k ∧ w.Since w.heap.size wr ∧ Hid (∀ r ∈ rs.take k, r.ok n))
  case atStart => exact ⟨0, Nat.zero_le _, rfl, rfl, World.Since.refl _ _, Lib.hid (by simp)⟩
  case round =>
    obtain ⟨k, hk, rfl, rfl, hs, hok⟩ := hrel
    by_cases hkl : k < rs.length
    · have hkz : (k : Int) < (rs.length : Int) := by omega
      obtain ⟨b, off, rfl, hb, hc⟩ := h k hkl
      obtain ⟨⟨x, y, l⟩, he⟩ : ∃ e, rs[k]? = some e := ⟨rs[k], List.getElem?_eq_getElem hkl⟩
      obtain ⟨h0, h1, h2⟩ := hc k _ he
      have He := Lib.hid he
      clear he
      simp only at h0 h1 h2
      rw [← hs.cell hb] at h0 h1 h2
      have hbad : ¬ RE.ok n ⟨x, y, l⟩ → ¬ TreeOk n rs := fun hb t => hb (t.ok _ (List.mem_of_getElem? He.out))
      have hcase : (x < 0) ∨ (0 ≤ x ∧ (n : Int) ≤ x) ∨ (0 ≤ x ∧ x < n ∧ y < 0) ∨ (0 ≤ x ∧ x < n ∧ 0 ≤ y ∧ (n : Int) ≤ y) ∨ (0 ≤ x ∧ x < n ∧ 0 ≤ y ∧ y < n ∧ l < 0) ∨ (0 ≤ x ∧ x < n ∧ 0 ≤ y ∧ y < n ∧ 0 ≤ l ∧ 1000000000 < l) ∨ (0 ≤ x ∧ x < n ∧ 0 ≤ y ∧ y < n ∧ 0 ≤ l ∧ l ≤ 1000000000) := by omega
      have Hbad := Lib.hid hbad
      clear hbad
      rcases hcase with c1 | ⟨c1, c2⟩ | ⟨c1, c2, c3⟩ | ⟨c1, c2, c3, c4⟩ | ⟨c1, c2, c3, c4, c5⟩ | ⟨c1, c2, c3, c4, c5, c6⟩ | ⟨c1, c2, c3, c4, c5, c6⟩
      · go_wp2
        go_ret
        exact ChkPost.bad 2 (hs.alloc hs.size _) (Hbad.out (fun t => by have := t.1; simp only at this; omega))
      · go_wp2
        go_ret
        exact ChkPost.bad 2 (hs.alloc hs.size _) (Hbad.out (fun t => by have := t.2.1; simp only at this; omega))
      · go_wp2
        go_ret
        exact ChkPost.bad 2 (hs.alloc hs.size _) (Hbad.out (fun t => by have := t.2.2.1; simp only at this; omega))
      · go_wp2
        go_ret
        exact ChkPost.bad 2 (hs.alloc hs.size _) (Hbad.out (fun t => by have := t.2.2.2.1; simp only at this; omega))
      · go_wp2
        go_ret
        exact ChkPost.bad 2 (hs.alloc hs.size _) (Hbad.out (fun t => by have := t.2.2.2.2.1; simp only at this; omega))
      · go_wp2
        go_ret
        exact ChkPost.bad 2 (hs.alloc hs.size _) (Hbad.out (fun t => by have := t.2.2.2.2.2; simp only at this; omega))
      · go_wp2
        go_roundg (rs.length - (k + 1))
        case measure => go_light; omega
        case rel =>
          go_light
          refine ⟨k + 1, by omega, rfl, by go_num, hs.alloc hs.size _, Lib.hid (fun r hr => ?_)⟩
          rw [List.take_succ_eq_append_getElem hkl] at hr
          rcases List.mem_append.1 hr with hr | hr
          · exact hok.out r hr
          · simp at hr
            have he := He.out
            rw [List.getElem?_eq_getElem hkl] at he
            injection he with he
            rw [hr, he]
            exact ⟨c1, c2, c3, c4, c5, c6⟩
    · obtain rfl : rs.length = k := by omega
      have hall : ∀ r ∈ rs, r.ok n := fun r hr => hok.out r (by rw [List.take_of_length_le (Nat.le_refl _)]; exact hr)
      have c1 := from_any n A cap (rs.map RE.ed) 0 wr ((h.since (Nat.le_refl _) hs).eds hall) (by rw [List.length_map, P3.out]; omega) pn2 (by omega) (good_of hall) (max_of hall)
      rw [List.length_map] at c1
      have C1 := Lib.hid c1
      have Hall := Lib.hid hall
      clear c1 hall
      go_wp2_with fail
      refine C1.out.mono ?_
      rintro e w1 ⟨rfl, hF⟩
      have c2 := Contains_any (some ⟨wr.heap.size, 0, none⟩) n (frm n (rs.map RE.ed) 0) (-1) w1 (hF.ints (frm_len Hall.out 0)) (by rw [frm_len Hall.out]; omega)
      rw [frm_len Hall.out] at c2
      have hsz := hF.row.lt
      obtain ⟨t, ht⟩ : ∃ t, decide ((-1 : Int) ∈ frm n (rs.map RE.ed) 0) = t := ⟨_, rfl⟩
      rw [ht] at c2
      have C2 := Lib.hid c2
      have Ht := Lib.hid ht
      clear c2 ht
      have hs1 : w.Since w.heap.size w1 := hs.trans (since_mono hF.since hs.size)
      cases t
      · go_wp2_with fail
        refine C2.out.mono ?_
        rintro e w' ⟨rfl, rfl⟩
        go_wp2
        go_ret
        exact ⟨hs1, none, rfl, fun _ => ⟨by omega, by omega, by have := P3.out; omega, Hall.out, of_decide_eq_false Ht.out⟩, fun _ => rfl⟩
      · go_wp2_with fail
        refine C2.out.mono ?_
        rintro e w' ⟨rfl, rfl⟩
        go_wp2
        go_ret
        exact ChkPost.bad 8 hs1 (fun t => t.all (of_decide_eq_true Ht.out))

theorem Check_ok {places : Int} {A : Option Addr} {cap : Nat} {rs : List RE} {w : World} (h : RawAt w A rs) (hlen : rs.length ≤ 1000000000) (t : TreeOk places rs) :
    Calls Try.prog 13 #[.int .i64 places, .slice A rs.length cap] w fun e w' => e = .returned .nilIface ∧ w.Since w.heap.size w' :=
  (Check_any places A cap rs w h hlen).mono fun e w' ⟨hs, c, he, hc⟩ => by
    have := hc.2 t
    subst this
    exact ⟨he, hs⟩
def IsErr (w : World) (e : Ending) (w' : World) : Prop := w.Since w.heap.size w' ∧ ∃ k, e = .returned (.iface 45 (.int .i64 k))
theorem Check_bad {places : Int} {A : Option Addr} {cap : Nat} {rs : List RE} {w : World} (h : RawAt w A rs) (hlen : rs.length ≤ 1000000000) (t : ¬ TreeOk places rs) :
    Calls Try.prog 13 #[.int .i64 places, .slice A rs.length cap] w (IsErr w) :=
  (Check_any places A cap rs w h hlen).mono fun e w' ⟨hs, c, he, hc⟩ => by
    cases c with
    | none => exact absurd (hc.1 rfl) t
    | some k => exact ⟨hs, k, he⟩
theorem TreeOk.tree {n : Nat} {rs : List RE} (t : TreeOk n rs) : Tree n (rs.map RE.ed) := by
  have hg := good_of t.ok
  have h0 := t.lo
  have hl := t.len
  refine ⟨hg, by omega, by rw [List.length_map]; omega, fun i hi => ?_⟩
  rcases (frm_base n _ hg 0 (by omega)).2 i hi with h | h
  · exfalso
    apply t.all
    rw [Int.toNat_natCast]
    have hlen := frm_len t.ok 0
    rw [List.getD_eq_getElem?_getD, List.getElem?_eq_getElem (by omega)] at h
    simp only [Option.getD_some] at h
    rw [← h]
    exact List.getElem_mem _
  · exact h
end Go.Proofs.Ytfkeplcalmlojaa
