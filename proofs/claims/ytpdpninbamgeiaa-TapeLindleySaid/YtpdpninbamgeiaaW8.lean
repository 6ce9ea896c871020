/- tape: those who go, swept out. -/
import Derived.Test.YtpdpninbamgeiaaW7
namespace Go.Proofs.Ytpdpninbamgeiaa
open Go.RowKit HeapM

def outK (js : List Tri) (wt : List Nat) (out : Nat → Int × Int) (now : Int) (i : Nat) : Int × Int := if i ∈ wt ∧ aT js i + pA js i ≤ now then (-1, now) else out i
theorem outK_snoc (js : List Tri) (wt : List Nat) (out : Nat → Int × Int) (now : Int) (i : Nat) : outK js (wt ++ [i]) out now = if aT js i + pA js i ≤ now then TapeM.upd (outK js wt out now) i (-1, now) else outK js wt out now := by
  funext j
  by_cases h : aT js i + pA js i ≤ now
  · rw [if_pos h]
    unfold TapeM.upd outK
    by_cases e : j = i
    · subst e; rw [if_pos rfl, if_pos ⟨by simp, h⟩]
    · rw [if_neg e]; simp [e]
  · rw [if_neg h]
    unfold outK
    by_cases e : j = i
    · subst e; simp [h]
    · simp [e]
def goP (js : List Tri) (now : Int) (z : Int) : Bool := decide (aT js z.toNat + pA js z.toNat ≤ now)
def keepN (js : List Tri) (now : Int) (wt : List Nat) : List Nat := wt.filter (fun i => decide (now < aT js i + pA js i))
theorem keep_eq (js : List Tri) (now : Int) (wt : List Nat) : (natsL wt).filter (fun z => !goP js now z) = natsL (keepN js now wt) := by
  unfold natsL keepN
  rw [List.filter_map]
  congr 1
  apply List.filter_congr
  intro i _
  simp only [goP, Function.comp, Int.toNat_natCast]
  by_cases h : aT js i + pA js i ≤ now
  · rw [decide_eq_true h, decide_eq_false (Int.not_lt.2 h)]; rfl
  · rw [decide_eq_false h, decide_eq_true (Int.not_le.1 h)]; rfl
theorem take_snocN {wt : List Nat} {k i : Nat} (h : wt[k]? = some i) : wt.take (k + 1) = wt.take k ++ [i] := by
  obtain ⟨hk, he⟩ := List.getElem?_eq_some_iff.1 h
  rw [List.take_succ_eq_append_getElem hk, he]
theorem enters15 : ∀ args w, (callFunc 15 args).run Try.prog w = .ok (.enter 15 args) w := fun args w => by kernel_rfl
theorem enters13 : ∀ args w, (callFunc 13 args).run Try.prog w = .ok (.enter 13 args) w := fun args w => by kernel_rfl
theorem sweep_any {w W : World} {m p2 bo p7 bf p9 p14 : Nat} {Aj : Option Addr} {cap A : Nat} {js : List Tri} {vc vw : Value} {c free : List Int} {wt : List Nat} {out : Nat → Int × Int} {now : Int} (hj : TriAt w Aj js) (hok : CallsOk js)
    (h : PN w W m p2 bo p7 bf p9 p14 (.slice Aj js.length cap) js.length A vc vw c free wt out now) (hw : ∀ i ∈ wt, i < js.length) (hl : wt.length ≤ 1000000000) :
    Calls Try.prog 14 #[vw, .func (.func 15) #[] #[.pointer (some ⟨p2, 0, none⟩), .pointer (some ⟨p14, 0, none⟩), .pointer (some ⟨p7, 0, none⟩)]] W fun e w' => ∃ vw', e = .returned vw' ∧
      PN w w' m p2 bo p7 bf p9 p14 (.slice Aj js.length cap) js.length A vc vw' c free (keepN js now wt) (outK js wt out now) now := by
  have od := h.pw.ord
  refine (Delete_irow (p := goP js now) (Q := fun k W => PW w W m p2 bo p7 bf p9 (.slice Aj js.length cap) js.length A vc c free (outK js (wt.take k) out now) ∧ W.cell? ⟨p14, 0, none⟩ = some (.int .i64 now)) enters15 (fun B hB => ⟨fun k x W' hx hQ hBs => ?_, fun k W' i v hQ => ?_⟩) ⟨?_, h.now_⟩ h.row (by rw [natsL_len]; exact hl)).mono ?_
  · have hmB := (h.row.lt B hB).1
    unfold natsL at hx
    rw [List.getElem?_map, Option.map_eq_some_iff] at hx
    obtain ⟨i, hi, rfl⟩ := hx
    refine (play2_any hj hok hQ.1 hQ.2 h.m14 (hw i (List.mem_of_getElem? hi))).mono ?_
    rintro e w' ⟨rfl, h1, h2, h3⟩
    refine ⟨by simp [goP], ⟨?_, h2⟩, h3 B hBs (by omega)⟩
    rw [take_snocN hi, outK_snoc]
    exact h1
  · have hmB := (h.row.lt B hB).1
    refine ⟨hQ.1.store hmB (fun e => h.apart B e hB) _ _, ?_⟩
    rw [World.cell?_setCell_other _ _ _ _ (by intro e; have := congrArg Addr.block e; simp at this; exact h.nw (by rw [hB, this]))]
    exact hQ.2
  · have : outK js (wt.take 0) out now = out := by funext j; unfold outK; simp
    rw [this]; exact h.pw
  · rintro e w' ⟨vw', rfl, hQ, hI, ho⟩
    rw [natsL_len, List.take_length] at hQ
    rw [keep_eq] at hI
    exact ⟨vw', rfl, hQ.1, hI, fun k hk => ho ▸ h.apart k hk, hQ.2, h.m14, h.nc, ho ▸ h.nw⟩
end Go.Proofs.Ytpdpninbamgeiaa
