/- tree.from computes the labels of the plain function frm, for at most 60 places and edges within them. -/
import Derived.Test.YtfkeplcalmlojaaRows
import Derived.Test.YtfkeplcalmlojaaLib
import Derived.Test.YtfkeplcalmlojaaTree
import Derived.WalkKit
import Derived.Lib.Hide
import Derived.Deep.OwnRows
import Derived.Deep.LoopGhost
import Derived.Deep.Light
import Derived.StillTailTactics
namespace Go.Proofs.Ytfkeplcalmlojaa
open Go.RowKit TreeM

theorem info3 : (Try.prog.info? 3).map (fun i => (i.zero, i.size, i.bytes)) = some (some (.int .i64 0), 1, 8) := by kernel_rfl

/-- a slice of edges reads as a list -/
def EdsAt (w : World) (A : Option Addr) (es : List Ed) : Prop :=
  ∀ k, k < es.length → ∃ b off, A = some ⟨b, off, none⟩ ∧ b < w.heap.size ∧ ∀ (k : Nat) (e : Ed), es[k]? = some e →
    w.cell? ⟨b, off + k * 3, none⟩ = some (.int .i64 e.u) ∧ w.cell? ⟨b, off + k * 3 + 1, none⟩ = some (.int .i64 e.v) ∧ w.cell? ⟨b, off + k * 3 + 2, none⟩ = some (.int .i64 e.l)

/-- the call's first new block holds these numbers; nothing that was there has turned -/
structure FS (w wr : World) (n : Nat) (f : Nat → Int) : Prop where
  since : w.Since w.heap.size wr
  row : wr.rowIs w.heap.size 3 n (fun i => .int .i64 (f i))

theorem fs_start (w : World) (n : Nat) : FS w (w.alloc (.cells (madeCells #[.int .i64 0] n) 3)) n (fun j => if j < 0 then -1 else 0) :=
  ⟨(World.Since.refl _ _).alloc (Nat.le_refl _) _, (World.rowIs_made w _ n 3).congr (fun j _ => by simp)⟩
theorem FS.set {w wr : World} {n : Nat} {f : Nat → Int} (h : FS w wr n f) (y : Nat) (v : Int) {g : Nat → Int} (hg : ∀ i, i < n → g i = if i = y then v else f i) : FS w (wr.setCell ⟨w.heap.size, y, none⟩ (.int .i64 v)) n g :=
  ⟨h.since.setCell (Nat.le_refl _) _, (h.row.set y _).congr (fun i hi => by rw [hg i hi]; split <;> rfl)⟩


def Bd (n : Nat) (o : List Int) : Prop := o.length = n ∧ ∀ i, o.getD i 0 ≤ ((n : Int) - neg o) * 1000000000
theorem bd_init (n r : Nat) (hr : r < n) : Bd n (init n r) := by
  refine ⟨init_len n r, fun i => ?_⟩
  have h1 : (init n r).getD i 0 ≤ 0 := by
    rw [init_get n r i hr]; split
    · omega
    · split <;> omega
  have h2 := neg_le (init n r)
  rw [init_len] at h2
  exact Int.le_trans h1 (Int.mul_nonneg (by omega) (by omega))
theorem bd_rel {n : Nat} {q : List Int} (h : Bd n q) (f : Bool) {x y : Nat} {l : Int} (hy : y < n) (hl : 0 ≤ l) (hl2 : l ≤ 1000000000) : Bd n (TreeM.rel (q, f) x y l).1 := by
  unfold TreeM.rel
  by_cases hc : 0 ≤ q.getD x 0 ∧ q.getD y 0 < 0
  · rw [if_pos hc]
    obtain ⟨h1, h3⟩ := h
    have hn := neg_set q y (q.getD x 0 + l) (by omega) hc.2 (by omega)
    refine ⟨by simp [h1], fun i => ?_⟩
    have hh : ((n : Int) - neg (q.set y (q.getD x 0 + l))) * 1000000000 = ((n : Int) - neg q) * 1000000000 + 1000000000 := by
      have : ((n : Int) - neg (q.set y (q.getD x 0 + l))) = ((n : Int) - neg q) + 1 := by omega
      rw [this, Int.add_mul, Int.one_mul]
    show (q.set y (q.getD x 0 + l)).getD i 0 ≤ ((n : Int) - neg (q.set y (q.getD x 0 + l))) * 1000000000
    rw [hh, getD_set q y i _ (by omega)]
    split
    · have := h3 x; omega
    · have := h3 i; omega
  · rw [if_neg hc]; exact h
theorem bd_max {n : Nat} {q : List Int} (h : Bd n q) (hn : n ≤ 60) (i : Nat) : q.getD i 0 ≤ 60000000000 := by
  have := h.2 i; omega

/-- the round of one edge: the numbers, the edge's variable, the two pairs -/
structure FI (w wi : World) (n : Nat) (f : Nat → Int) (Be : Nat) (u v : Nat) (l : Int) : Prop where
  fs : FS w wi n f
  e : wi.rowIs Be 31 3 (fun i => if i = 0 then .int .i64 u else if i = 1 then .int .i64 v else .int .i64 l)
  p : wi.rowIs (Be + 1) 50 4 (fun i => if i = 0 then .int .i64 u else if i = 1 then .int .i64 v else if i = 2 then .int .i64 v else .int .i64 u)
theorem fi_start {w wr : World} {n : Nat} {f : Nat → Int} (h : FS w wr n f) (u v : Nat) (l : Int) :
    FI w ((wr.alloc (.cells #[.int .i64 u, .int .i64 v, .int .i64 l] 31)).alloc (.cells #[.int .i64 u, .int .i64 v, .int .i64 v, .int .i64 u] 50)) n f wr.heap.size u v l := by
  refine ⟨⟨(h.since.alloc h.since.size _).alloc (by have := h.since.size; simp; omega) _, (h.row.alloc _).alloc _⟩, ?_, ?_⟩
  · refine World.rowIs.alloc ?_ _
    refine World.rowIs_alloc wr #[.int .i64 u, .int .i64 v, .int .i64 l] 31 _ (fun i hi => ?_)
    simp at hi
    match i, hi with
    | 0, _ => rfl
    | 1, _ => rfl
    | 2, _ => rfl
  · have := World.rowIs_alloc (wr.alloc (.cells #[.int .i64 u, .int .i64 v, .int .i64 l] 31)) #[.int .i64 u, .int .i64 v, .int .i64 v, .int .i64 u] 50 (fun i => if i = 0 then .int .i64 u else if i = 1 then .int .i64 v else if i = 2 then .int .i64 v else .int .i64 u) (fun i hi => by
      simp at hi
      match i, hi with
      | 0, _ => rfl
      | 1, _ => rfl
      | 2, _ => rfl
      | 3, _ => rfl)
    simpa using this
theorem FI.alloc {w wi : World} {n : Nat} {f : Nat → Int} {Be u v : Nat} {l : Int} (h : FI w wi n f Be u v l) (o : Obj) : FI w (wi.alloc o) n f Be u v l :=
  ⟨⟨h.fs.since.alloc h.fs.since.size _, h.fs.row.alloc _⟩, h.e.alloc _, h.p.alloc _⟩
theorem FI.drew {w wi : World} {n : Nat} {f : Nat → Int} {Be u v : Nat} {l : Int} (h : FI w wi n f Be u v l) : FI w wi.drew n f Be u v l :=
  ⟨⟨h.fs.since.drew, h.fs.row.drew⟩, h.e.drew, h.p.drew⟩
theorem FI.set {w wi : World} {n : Nat} {f : Nat → Int} {Be u v : Nat} {l : Int} (h : FI w wi n f Be u v l) (hB : w.heap.size < Be) (y : Nat) (x : Int) {g : Nat → Int} (hg : ∀ i, i < n → g i = if i = y then x else f i) :
    FI w (wi.setCell ⟨w.heap.size, y, none⟩ (.int .i64 x)) n g Be u v l :=
  ⟨h.fs.set y x hg, h.e.setOther (by show Be ≠ w.heap.size; omega) _, h.p.setOther (by show Be + 1 ≠ w.heap.size; omega) _⟩

theorem pair_of {w wi : World} {n Be u v j : Nat} {l : Int} {p q : List Int} {f f' : Bool} {h : Nat → Int} (hFI : FI w wi n h Be u v l) (hj2 : j < 2) (hu : u < n) (hv : v < n)
    (hpst : Hid ((if j = 0 then (q, f) else if j = 1 then TreeM.rel (q, f) u v l else TreeM.step (q, f) ⟨u, v, l⟩) = (p, f'))) :
    ∃ x y : Nat, x < n ∧ y < n ∧ wi.cell? ⟨Be + 1, j * 2, none⟩ = some (.int .i64 x) ∧ wi.cell? ⟨Be + 1, j * 2 + 1, none⟩ = some (.int .i64 y) ∧
      Hid ((if j + 1 = 0 then (q, f) else if j + 1 = 1 then TreeM.rel (q, f) u v l else TreeM.step (q, f) ⟨u, v, l⟩) = TreeM.rel (p, f') x y l) := by
  have hp := hpst.out
  match j, hj2 with
  | 0, _ =>
    refine ⟨u, v, hu, hv, hFI.p.cell (i := 0) (by omega), hFI.p.cell (i := 1) (by omega), Lib.hid ?_⟩
    rw [if_pos rfl] at hp
    rw [if_neg (by omega), if_pos rfl, hp]
  | 1, _ =>
    refine ⟨v, u, hv, hu, hFI.p.cell (i := 2) (by omega), hFI.p.cell (i := 3) (by omega), Lib.hid ?_⟩
    rw [if_neg (by omega), if_pos rfl] at hp
    rw [if_neg (by omega), if_neg (by omega), ← hp]
    rfl

set_option maxHeartbeats 4000000 in
theorem from_any (n : Nat) (A : Option Addr) (cap : Nat) (es : List Ed) (r : Nat) (w : World) (hes : EdsAt w A es) (hlen : es.length ≤ 100) (hn : n ≤ 60) (hr : r < n) (hg : TreeM.Good n es) (hM : ∀ e ∈ es, e.l ≤ 1000000000) :
    Calls Try.prog 15 #[.int .i64 n, .slice A es.length cap, .int .i64 r] w fun e w' => e = .returned (.slice (some ⟨w.heap.size, 0, none⟩) n n) ∧ FS w w' n (fun i => (frm n es r).getD i 0) := by
  have hmk := run_make_row' (P := Try.prog) 32 3 (.int .i64 0) 8 Try.underlying32 info3 rfl .i64 .i64 n (by omega) (by omega)
  go_enter Try.func15, Try.ntmps15
  go_wp2
  clear hmk
  go_loopg [18] n (fun g i wr => ∃ k : Nat, k ≤ n ∧ g = n - k ∧ i = .int .i64 k ∧ FS w wr n (fun j => if j < k then -1 else 0))
  case atStart => exact ⟨0, Nat.zero_le _, rfl, rfl, fs_start w n⟩
  case round =>
    obtain ⟨k, hk, rfl, rfl, hF⟩ := hrel
    by_cases hkn : k < n
    · have hkz : (k : Int) < (n : Int) := by omega
      have c1 := hF.row.cell hkn
      have c2 := hF.row.frozen k
      go_wp2
      go_roundg (n - (k + 1))
      case measure => go_light; omega
      case rel =>
        go_light
        exact ⟨k + 1, by omega, rfl, by go_num, hF.set k (-1) (fun i _ => by
          by_cases e : i = k
          · subst e; simp
          · rw [if_neg e]
            by_cases hlt : i < k
            · rw [if_pos hlt, if_pos (by omega)]
            · rw [if_neg hlt, if_neg (by omega)])⟩
    · obtain rfl : n = k := by omega
      have c1 := hF.row.cell hr
      have c2 := hF.row.frozen r
      have hrz : (r : Int) < (n : Int) := by omega
      go_wp2
      have hI : FS w (wr.setCell ⟨w.heap.size, r, none⟩ (.int .i64 0)) n (fun i => (init n r).getD i 0) := hF.set r 0 (fun i hi => by
        rw [init_get n r i hr])
      generalize wr.setCell ⟨w.heap.size, r, none⟩ (.int .i64 0) = w0 at hI ⊢
      clear c1 c2 hF
      go_loopg [9] (n + 3) (fun g s9 wr => ∃ (o : List Int) (ag : Bool), s9 = .bool ag ∧ Bd n o ∧ FS w wr n (fun i => o.getD i 0) ∧
        ((ag = true ∧ Hid (loop (neg o + 1) es o = frm n es r) ∧ neg o + 2 ≤ g) ∨ (ag = false ∧ Hid (o = frm n es r))))
      case atStart =>
        refine ⟨init n r, true, rfl, bd_init n r hr, hI, .inl ⟨rfl, Lib.hid ?_, ?_⟩⟩
        · exact (loop_fuel n es hg (neg (init n r) + 1) _ (init_len n r) (by omega) (n + 1) (by have := neg_init n r hr; omega)).symm
        · have := neg_init n r hr; omega
      case round =>
        obtain ⟨o, ag, rfl, ho, hF, ⟨rfl, hL, hgk⟩ | ⟨rfl, hL⟩⟩ := hrel
        · go_wp2
          go_loopg [9, 31] es.length (fun g s9 i wr => ∃ (k : Nat) (q : List Int) (f : Bool), k ≤ es.length ∧ g = es.length - k ∧ i = .int .i64 k ∧ s9 = .bool f ∧ Bd n q ∧ FS w wr n (fun i => q.getD i 0) ∧ Hid ((es.take k).foldl TreeM.step (o, false) = (q, f)))
          case atStart => exact ⟨0, o, false, Nat.zero_le _, rfl, rfl, rfl, ho, hF, Lib.hid rfl⟩
          case round =>
            clear hF hI
            obtain ⟨k, q, f, hk, rfl, rfl, rfl, hq, hF, hst⟩ := hrel
            by_cases hkl : k < es.length
            · have hkz : (k : Int) < (es.length : Int) := by omega
              obtain ⟨b, off, rfl, hb, hc⟩ := hes k hkl
              obtain ⟨⟨u, v, l⟩, he⟩ : ∃ e, es[k]? = some e := ⟨es[k], List.getElem?_eq_getElem hkl⟩
              obtain ⟨hu, hv, hl⟩ := hg _ (List.mem_of_getElem? he)
              have hlM := hM _ (List.mem_of_getElem? he)
              obtain ⟨h0, h1, h2⟩ := hc k _ he
              have He := Lib.hid he
              clear he
              simp only at hu hv hl h0 h1 h2 hlM
              rw [← hF.since.cell hb] at h0 h1 h2
              have hB : w.heap.size < wr.heap.size := hF.row.lt
              go_wp2
              have hFI := fi_start hF u v l
              generalize hw2 : (wr.alloc (.cells #[.int .i64 (u : Int), .int .i64 (v : Int), .int .i64 l] 31)).alloc (.cells #[.int .i64 (u : Int), .int .i64 (v : Int), .int .i64 (v : Int), .int .i64 (u : Int)] 50) = w2 at hFI ⊢
              clear hw2 h0 h1 h2 hF
              generalize wr.heap.size = Be at hFI hB ⊢
              go_loopg [9, 47] 2 (fun g s9 i wi => ∃ (j : Nat) (p : List Int) (f' : Bool), j ≤ 2 ∧ g = 2 - j ∧ i = .int .i64 j ∧ s9 = .bool f' ∧ Bd n p ∧ FI w wi n (fun i => p.getD i 0) Be u v l ∧
                Hid ((if j = 0 then (q, f) else if j = 1 then TreeM.rel (q, f) u v l else TreeM.step (q, f) ⟨u, v, l⟩) = (p, f')))
              case atStart => exact ⟨0, q, f, by omega, rfl, rfl, rfl, hq, hFI, Lib.hid rfl⟩
              case round =>
                clear hFI
                obtain ⟨j, p, f', hj, rfl, rfl, rfl, hp, hFI, hpst⟩ := hrel
                by_cases hj2 : j < 2
                · obtain ⟨x, y, hxn, hyn, h0, h1, hnx⟩ := pair_of hFI hj2 hu hv hpst
                  have hjz : (j : Int) < 2 := by omega
                  have hxz : (x : Int) < (n : Int) := by omega
                  have hyz : (y : Int) < (n : Int) := by omega
                  obtain ⟨a, ha⟩ : ∃ a, a = p.getD x 0 := ⟨_, rfl⟩
                  obtain ⟨b', hb'⟩ : ∃ a, a = p.getD y 0 := ⟨_, rfl⟩
                  have ca : wr.cell? ⟨w.heap.size, x, none⟩ = some (.int .i64 a) := by rw [ha]; exact hFI.fs.row.cell hxn
                  have cb : wr.cell? ⟨w.heap.size, y, none⟩ = some (.int .i64 b') := by rw [hb']; exact hFI.fs.row.cell hyn
                  have cf := hFI.fs.row.frozen y
                  have cl : wr.cell? ⟨Be, 2, none⟩ = some (.int .i64 l) := hFI.e.cell (i := 2) (by omega)
                  have z1 : w.heap.size < wr.heap.size := hFI.fs.row.lt
                  have z2 : Be < wr.heap.size := hFI.e.lt
                  have z3 : Be + 1 < wr.heap.size := hFI.p.lt
                  have hamax : a ≤ 60000000000 := by rw [ha]; exact bd_max hp hn x
                  have Ha := Lib.hid ha
                  have Hb := Lib.hid hb'
                  clear ha hb'
                  have h0' := h0
                  by_cases hca : 0 ≤ a
                  · by_cases hcb : b' < 0
                    · go_wp2
                      go_region
                      go_wp2
                      go_roundg (2 - (j + 1))
                      case measure => go_light; omega
                      case rel =>
                        go_light
                        have hre : TreeM.rel (p, f') x y l = (p.set y (a + l), true) := by
                          rw [TreeM.rel, if_pos (by rw [← Ha.out, ← Hb.out]; exact ⟨hca, hcb⟩), ← Ha.out]
                        refine ⟨j + 1, p.set y (a + l), true, by omega, rfl, by go_num, rfl, ?_, ?_, Lib.hid (by rw [hnx.out, hre])⟩
                        · have := bd_rel hp f' (x := x) hyn hl hlM
                          rw [hre] at this; exact this
                        · exact ((hFI.set (g := fun i => (p.set y (a + l)).getD i 0) hB y (a + l) (fun i _ => getD_set p y i _ (by rw [hp.1]; exact hyn))).alloc _).drew
                    · go_wp2
                      go_roundg (2 - (j + 1))
                      case measure => go_light; omega
                      case rel =>
                        go_light
                        exact ⟨j + 1, p, f', by omega, rfl, by go_num, rfl, hp, hFI.alloc _, Lib.hid (by rw [hnx.out, TreeM.rel, if_neg]; rw [← Hb.out]; omega)⟩
                  · go_wp2
                    go_roundg (2 - (j + 1))
                    case measure => go_light; omega
                    case rel =>
                      go_light
                      exact ⟨j + 1, p, f', by omega, rfl, by go_num, rfl, hp, hFI.alloc _, Lib.hid (by rw [hnx.out, TreeM.rel, if_neg]; rw [← Ha.out]; omega)⟩
                · obtain rfl : 2 = j := by omega
                  go_wp2
                  go_roundg (es.length - (k + 1))
                  case measure => go_light; omega
                  case rel =>
                    go_light
                    refine ⟨k + 1, p, f', by omega, rfl, by go_num, rfl, hp, hFI.fs, Lib.hid ?_⟩
                    rw [List.take_succ_eq_append_getElem hkl, List.foldl_append, hst.out]
                    have he := He.out
                    rw [List.getElem?_eq_getElem hkl] at he
                    injection he with he
                    rw [he]
                    exact hpst.out
            · obtain rfl : es.length = k := by omega
              go_wp2
              have hps : pass es o = (q, f) := by
                have := hst.out
                rw [List.take_of_length_le (Nat.le_refl _)] at this
                exact this
              have halt := pass_alt n es hg o ho.1
              rw [hps] at halt
              cases f with
              | true =>
                have hlt : neg q < neg o := by
                  rcases halt.2 with h | h
                  · exact h.2
                  · exact absurd h.1 (by simp)
                have hL2 : loop (neg o + 1) es o = loop (neg o) es q := by
                  rw [loop, hps]; rfl
                go_roundg (neg q + 2)
                case measure => go_light; omega
                case rel =>
                  go_light
                  refine ⟨q, true, rfl, hq, hF, .inl ⟨rfl, Lib.hid ?_, Nat.le_refl _⟩⟩
                  rw [← hL.out, hL2]
                  exact (loop_fuel n es hg (neg q + 1) q hq.1 (by omega) (neg o) (by omega)).symm
              | false =>
                go_roundg 0
                case measure => go_light; omega
                case rel =>
                  go_light
                  refine ⟨q, false, rfl, hq, hF, .inr ⟨rfl, Lib.hid ?_⟩⟩
                  rw [← hL.out, loop, hps]; rfl
        · go_wp2
          go_ret
          exact ⟨rfl, by rw [← hL.out]; exact hF⟩
end Go.Proofs.Ytfkeplcalmlojaa
