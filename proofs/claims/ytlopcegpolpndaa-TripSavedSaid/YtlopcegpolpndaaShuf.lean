/- foresightkeep.shuffled gives some order of n things; line.Order says whether a row is one. (From the template XShuf.) -/
import Derived.Test.YtlopcegpolpndaaLib
import Derived.Test.YtlopcegpolpndaaPermM
import Derived.BigQuiet
import Derived.Deep.QuietTactic
namespace Go.Proofs.Ytlopcegpolpndaa
open Go.RowKit PermM

theorem info_int : (Try.prog.info? 3).map (fun i => (i.zero, i.size, i.bytes)) = some (some (.int .i64 0), 1, 8) := by kernel_rfl
theorem info_bool : (Try.prog.info? 4).map (fun i => (i.zero, i.size, i.bytes)) = some (some (.bool false), 1, 1) := by kernel_rfl
theorem since_mono {w w' : World} {B C : Nat} (h : w.Since C w') (hB : B ≤ C) : w.Since B w' := ⟨h.os, h.tape, h.output, h.size, fun k hk => h.block k (Nat.lt_of_lt_of_le hk hB)⟩
theorem since_join {a w w' : World} (h : a.Since a.heap.size w) (k : w.Since w.heap.size w') : a.Since a.heap.size w' := h.trans (since_mono k h.size)
theorem quietc {P : Program} {f : FuncId} {args : Array Value} {w : World} {n : Nat} {v : Value} (h : Calls P f args (w.drewN n) fun e w' => e = .returned v ∧ w.drewN n = w') :
    Calls P f args (w.drewN n) fun e w'' => e = .returned v ∧ ∃ m, w'' = w.drewN m := h.mono fun _ _ ⟨he, hm⟩ => ⟨he, n, hm.symm⟩
theorem take_snoc' {α : Type} {xs : List α} {k : Nat} {x : α} (h : xs[k]? = some x) : xs.take (k + 1) = xs.take k ++ [x] := by
  obtain ⟨hk, he⟩ := List.getElem?_eq_some_iff.1 h
  rw [List.take_succ_eq_append_getElem hk, he]
/-- an error's value: nil just where c is none -/
def errV : Option Int → Value
  | none => .nilIface
  | some k => .iface 46 (.int .i64 k)
def natsV (l : List Nat) (i : Nat) : Value := .int .i64 (l.getD i 0 : Nat)
def ints (l : List Nat) : List Int := l.map fun (x : Nat) => (x : Int)
theorem ints_len (l : List Nat) : (ints l).length = l.length := by simp [ints]
theorem ints_getD (l : List Nat) (i : Nat) (h : i < l.length) : (ints l).getD i 0 = (l.getD i 0 : Nat) := by
  simp [ints, List.getD_eq_getElem?_getD, List.getElem?_eq_getElem h]
theorem natsAt {w : World} {b : Nat} {t : TypeId} {l : List Nat} {n : Nat} (hn : l.length = n) (h : w.rowIs b t n (natsV l)) : IntsAt w (some ⟨b, 0, none⟩) (ints l) :=
  IntsAt.row (by rw [ints_len, hn]) (fun i hi => by rw [ints_getD l i (by omega)]; rfl) h

def ShufPost (n : Nat) (w : World) (e : Ending) (w' : World) : Prop :=
  w.Since w.heap.size w' ∧ e = .returned (.slice (some ⟨w.heap.size, 0, none⟩) n n) ∧ ∃ l, IsPerm n l ∧ w'.rowIs w.heap.size 3 n (natsV l)
set_option maxHeartbeats 2000000 in
theorem shuffled_any (n : Nat) (A : Option Addr) (cap : Nat) (mix : List Int) (w : World) (hn : n ≤ 8796093022208) (h : IntsAt w A mix) (hlen : mix.length ≤ 1000000) :
    Calls Try.prog 10 #[.int .i64 n, .slice A mix.length cap] w (ShufPost n w) := by
  have hmk := run_make_row' (P := Try.prog) 23 3 (.int .i64 0) 8 Try.underlying23 info_int rfl .i64 .i64 n (by omega) (by omega)
  go_enter Try.func10, Try.ntmps10
  go_wp2
  clear hmk
  go_loopg [6] n (fun g i wr => ∃ k : Nat, k ≤ n ∧ g = n - k ∧ i = .int .i64 k ∧ w.Since w.heap.size wr ∧ wr.rowIs w.heap.size 3 n (fun j => .int .i64 (if j < k then (j : Int) else 0)))
  case atStart => exact ⟨0, Nat.zero_le _, rfl, rfl, (World.Since.refl _ _).alloc (Nat.le_refl _) _, (World.rowIs_made w _ n 3).congr (fun j _ => by simp)⟩
  case round =>
    obtain ⟨k, hk, rfl, rfl, hs, hr⟩ := hrel
    by_cases hkn : k < n
    · have hkz : (k : Int) < (n : Int) := by omega
      have c1 := hr.cell hkn
      have c2 := hr.frozen k
      go_wp2
      go_roundg (n - (k + 1))
      case measure => go_light; omega
      case rel =>
        go_light
        refine ⟨k + 1, by omega, rfl, by go_num, hs.setCell (Nat.le_refl _) _, (hr.set k _).congr (fun j _ => ?_)⟩
        by_cases e : j = k
        · subst e; simp
        · rw [if_neg e]
          by_cases hlt : j < k
          · rw [if_pos hlt, if_pos (by omega)]
          · rw [if_neg hlt, if_neg (by omega)]
    · obtain rfl : n = k := by omega
      have hr2 : wr.rowIs w.heap.size 3 n (natsV (List.range n)) := hr.congr (fun j hj => by
        rw [if_pos hj]; simp [natsV, List.getD_eq_getElem?_getD, hj])
      clear hr
      go_wp2
      go_loopg [7] mix.length (fun g i wr => ∃ (k : Nat) (l : List Nat), k ≤ mix.length ∧ g = mix.length - k ∧ i = .int .i64 k ∧ w.Since w.heap.size wr ∧ IsPerm n l ∧ wr.rowIs w.heap.size 3 n (natsV l))
      case atStart => exact ⟨0, List.range n, Nat.zero_le _, rfl, rfl, hs, isPerm_range n, hr2⟩
      case round =>
        clear hr2 hs
        obtain ⟨k, l, hk, rfl, rfl, hs, hl, hr⟩ := hrel
        by_cases hkn : k < mix.length ∧ 0 < n
        · obtain ⟨hkn, hn0⟩ := hkn
          have hkz : (k : Int) < (mix.length : Int) := by omega
          have hnz : (0 : Int) < (n : Int) := by omega
          obtain ⟨b, off, rfl, hb, hc⟩ := h k hkn
          obtain ⟨x, hx⟩ : ∃ x, mix[k]? = some x := ⟨mix[k], List.getElem?_eq_getElem hkn⟩
          have c0 := hc k x hx
          rw [← hs.cell (show b < w.heap.size from hb)] at c0
          clear hc hx
          have p1 := pickF_bd (k : Int) n (by omega)
          have p2 := pickF_bd x n (by omega)
          have C1 : ∀ W, Calls Try.prog 16 #[.int .i64 (k : Int), .int .i64 (n : Int)] W fun e w' => e = .returned (.int .i64 (pickF k n)) ∧ W = w' := fun W => pick_any k n W (by omega) (by omega)
          have C2 : ∀ W, Calls Try.prog 16 #[.int .i64 x, .int .i64 (n : Int)] W fun e w' => e = .returned (.int .i64 (pickF x n)) ∧ W = w' := fun W => pick_any x n W (by omega) (by omega)
          generalize pickF (k : Int) n = a0 at p1 C1
          generalize pickF x n = b0 at p2 C2
          obtain ⟨a, rfl⟩ := Int.eq_ofNat_of_zero_le p1.1
          obtain ⟨b', rfl⟩ := Int.eq_ofNat_of_zero_le p2.1
          have han : a < n := by omega
          have hbn : b' < n := by omega
          have haz : (a : Int) < (n : Int) := by omega
          have hbz : (b' : Int) < (n : Int) := by omega
          have D1 := Lib.hid C1
          have D2 := Lib.hid C2
          clear C1 C2 p1 p2
          have ca := hr.cell han
          have cb := hr.cell hbn
          have fa := hr.frozen a
          have fb := hr.frozen b'
          unfold natsV at ca cb
          obtain ⟨va, hva⟩ : ∃ v, v = l.getD a 0 := ⟨_, rfl⟩
          obtain ⟨vb, hvb⟩ : ∃ v, v = l.getD b' 0 := ⟨_, rfl⟩
          rw [← hva] at ca
          rw [← hvb] at cb
          have Ha := Lib.hid hva
          have Hb := Lib.hid hvb
          clear hva hvb
          have hswp := (hl.swp han hbn)
          have hsg : ∀ i, i < n → natsV (swp l a b') i = if i = b' then .int .i64 (va : Nat) else if i = a then .int .i64 (vb : Nat) else natsV l i := fun i hi => by
            unfold natsV
            rw [swp_get _ _ _ _ (by rw [hl.len]; exact han) (by rw [hl.len]; exact hbn), ← Ha.out, ← Hb.out]
            split
            · rfl
            · split <;> rfl
          have Hsg := Lib.hid hsg
          clear hsg
          go_wp2
          go_quiet ((first | with_reducible exact quietc (D1.out _) | with_reducible exact quietc (D2.out _)))
          have hr' : ∀ m, (wr.drewN m).rowIs w.heap.size 3 n (natsV l) := fun _ => hr
          have hs' : ∀ m, w.Since w.heap.size (wr.drewN m) := fun _ => ⟨hs.os, hs.tape, hs.output, hs.size, hs.block⟩
          by_cases hab : a = b'
          · subst hab
            go_wp2
            go_region
            go_wp2
            go_roundg (mix.length - (k + 1))
            case measure => go_light; omega
            case rel =>
              go_light
              refine ⟨k + 1, swp l a a, by omega, rfl, by go_num, (((hs' _).setCell (Nat.le_refl _) _).setCell (Nat.le_refl _) _), hswp, (((hr' _).set a _).set a _).congr (fun i hi => ?_)⟩
              rw [Hsg.out i hi]
              by_cases e : i = a
              · subst e; simp
              · simp [e]
          · have hba : ¬ b' = a := fun e => hab e.symm
            go_wp2
            go_region
            all_goals
              go_wp2
              go_roundg (mix.length - (k + 1))
              case measure => go_light; omega
              case rel =>
                go_light
                refine ⟨k + 1, swp l a b', by omega, rfl, by go_num, (((hs' _).setCell (Nat.le_refl _) _).setCell (Nat.le_refl _) _), hswp, (((hr' _).set a _).set b' _).congr (fun i hi => ?_)⟩
                rw [Hsg.out i hi]
        · have hkf : mix.length ≤ k ∨ n = 0 := by omega
          by_cases hkk : k < mix.length
          · have hkz : (k : Int) < (mix.length : Int) := by omega
            have d1 : decide ((0 : Int) < (n : Int)) = false := by simp; omega
            have d2 : decide (0 < n) = false := by simp; omega
            go_wp2
            go_ret
            exact ⟨hs, rfl, l, hl, hr⟩
          · go_wp2
            go_ret
            exact ⟨hs, rfl, l, hl, hr⟩

/-! line.Order -/
/-- a row of ints that is an order of n things -/
def IsOrder (n : Int) (xs : List Int) : Prop := (xs.length : Int) = n ∧ (∀ x ∈ xs, 0 ≤ x ∧ x < n) ∧ xs.Nodup
theorem IsOrder.perm {n : Nat} {xs : List Int} (h : IsOrder n xs) : ∃ l, xs = ints l ∧ IsPerm n l := by
  obtain ⟨h1, h2, h3⟩ := h
  have he : ints (xs.map Int.toNat) = xs := by
    unfold ints
    rw [List.map_map]
    conv => rhs; rw [← List.map_id xs]
    exact List.map_congr_left fun x hx => by have := h2 x hx; simp; omega
  refine ⟨xs.map Int.toNat, he.symm, by simp; omega, ?_, fun x hx => ?_⟩
  · have : (ints (xs.map Int.toNat)).Nodup := by rw [he]; exact h3
    unfold ints at this
    exact (List.pairwise_map.1 this).imp fun hne e => hne (by rw [e])
  · obtain ⟨y, hy, rfl⟩ := List.mem_map.1 hx
    have := h2 y hy
    omega
theorem perm_order {n : Nat} {l : List Nat} (h : IsPerm n l) : IsOrder n (ints l) := by
  refine ⟨by rw [ints_len, h.len], fun x hx => ?_, ?_⟩
  · obtain ⟨y, hy, rfl⟩ := List.mem_map.1 hx
    have := h.lt y hy
    omega
  · exact List.pairwise_map.2 (h.nodup.imp fun hne e => hne (by omega))
def OrderPost (n : Int) (xs : List Int) (w : World) (e : Ending) (w' : World) : Prop :=
  w.Since w.heap.size w' ∧ ∃ c : Option Int, e = .returned (errV c) ∧ (c = none ↔ IsOrder n xs)
theorem OrderPost.bad {n : Int} {xs : List Int} {w w' : World} (k : Int) (hs : w.Since w.heap.size w') (h : ¬ IsOrder n xs) : OrderPost n xs w (.returned (.iface 46 (.int .i64 k))) w' :=
  ⟨hs, some k, rfl, by simp [h]⟩
def SeenTo (xs : List Int) (k : Nat) (f : Nat → Bool) : Prop := (∀ i, f i = true ↔ (i : Int) ∈ xs.take k) ∧ (xs.take k).Nodup ∧ ∀ x ∈ xs.take k, 0 ≤ x

set_option maxHeartbeats 2000000 in
theorem Order_any (n : Nat) (A : Option Addr) (cap : Nat) (xs : List Int) (w : World) (hn : n ≤ 1000) (h : IntsAt w A xs) (hlen : xs.length ≤ 1000000000) :
    Calls Try.prog 18 #[.slice A xs.length cap, .int .i64 n] w (OrderPost n xs w) := by
  by_cases hl : (xs.length : Int) = n
  case neg =>
    have hb : ((xs.length : Int) != (n : Int)) = true := by rw [bne_iff_ne]; exact hl
    go_enter Try.func18, Try.ntmps18
    go_wp2
    go_ret
    exact OrderPost.bad 3 (World.Since.refl _ _) (fun h => hl h.1)
  have hb : ((xs.length : Int) != (n : Int)) = false := by rw [bne_eq_false_iff_eq]; exact hl
  have Hl := Lib.hid hl
  clear hl
  have hmk := run_make_row' (P := Try.prog) 39 4 (.bool false) 1 Try.underlying39 info_bool rfl .i64 .i64 n (by omega) (by omega)
  go_enter Try.func18, Try.ntmps18
  go_wp2
  clear hmk hb
  go_loopg [17] xs.length (fun g i wr => ∃ (k : Nat) (f : Nat → Bool), k ≤ xs.length ∧ g = xs.length - k ∧ i = .int .i64 k ∧ w.Since w.heap.size wr ∧ wr.rowIs w.heap.size 4 n (fun j => .bool (f j)) ∧ Hid (SeenTo xs k f) ∧ Hid (∀ x ∈ xs.take k, x < n))
  case atStart => exact ⟨0, fun _ => false, Nat.zero_le _, rfl, rfl, (World.Since.refl _ _).alloc (Nat.le_refl _) _, World.rowIs_made w _ n 4, Lib.hid ⟨by simp, by simp, by simp⟩, Lib.hid (by simp)⟩
  case round =>
    obtain ⟨k, f, hk, rfl, rfl, hs, hr, hS, hT⟩ := hrel
    by_cases hkl : k < xs.length
    · have hkz : (k : Int) < (xs.length : Int) := by omega
      obtain ⟨b, off, rfl, hb, hc⟩ := h k hkl
      obtain ⟨x, hx⟩ : ∃ x, xs[k]? = some x := ⟨xs[k], List.getElem?_eq_getElem hkl⟩
      have c0 := hc k x hx
      rw [← hs.cell (show b < w.heap.size from hb)] at c0
      have Hx := Lib.hid hx
      clear hc hx
      by_cases x0 : x < 0
      · go_wp2
        go_ret
        exact OrderPost.bad 2 hs (fun h => by have := h.2.1 x (List.mem_of_getElem? Hx.out); omega)
      by_cases x1 : (n : Int) ≤ x
      · have x0' : 0 ≤ x := by omega
        go_wp2
        go_ret
        exact OrderPost.bad 2 hs (fun h => by have := h.2.1 x (List.mem_of_getElem? Hx.out); omega)
      obtain ⟨x', rfl⟩ := Int.eq_ofNat_of_zero_le (show 0 ≤ x by omega)
      have hxn : x' < n := by omega
      have hxz : (x' : Int) < (n : Int) := by omega
      have g1 := hr.cell hxn
      have g2 := hr.frozen x'
      clear x0 x1
      cases hfx : f x' with
      | true =>
        rw [hfx] at g1
        have Hf := Lib.hid hfx
        clear hfx
        go_wp2
        go_ret
        refine OrderPost.bad 9 hs (fun h => ?_)
        have h1 := (hS.out.1 x').1 Hf.out
        have h2 := h.2.2
        rw [← List.take_append_drop (k + 1) xs, List.nodup_append] at h2
        have h3 := h2.1
        rw [take_snoc' Hx.out, List.nodup_append] at h3
        exact h3.2.2 _ h1 (x' : Int) (by simp) rfl
      | false =>
        rw [hfx] at g1
        have Hf := Lib.hid hfx
        clear hfx
        go_wp2
        go_roundg (xs.length - (k + 1))
        case measure => go_light; omega
        case rel =>
          go_light
          refine ⟨k + 1, fun j => if j = x' then true else f j, by omega, rfl, by go_num, hs.setCell (Nat.le_refl _) _, (hr.set x' _).congr (fun j _ => by by_cases e : j = x' <;> simp [e]), Lib.hid ⟨fun i => ?_, ?_, ?_⟩, Lib.hid ?_⟩
          · rw [take_snoc' Hx.out, List.mem_append, ← hS.out.1 i]
            by_cases e : i = x'
            · subst e; simp
            · simp [e]; omega
          · rw [take_snoc' Hx.out, List.nodup_append]
            refine ⟨hS.out.2.1, by simp, fun a ha b hb => ?_⟩
            simp at hb
            subst hb
            rintro rfl
            have := (hS.out.1 x').2 ha
            rw [Hf.out] at this; cases this
          · rw [take_snoc' Hx.out, List.forall_mem_append]
            exact ⟨hS.out.2.2, by simp⟩
          · rw [take_snoc' Hx.out, List.forall_mem_append]
            exact ⟨hT.out, by simpa using hxz⟩
    · obtain rfl : xs.length = k := by omega
      go_wp2
      go_ret
      have h1 := hS.out
      have h2 := hT.out
      unfold SeenTo at h1
      rw [List.take_of_length_le (Nat.le_refl _)] at h1 h2
      exact ⟨hs, none, rfl, fun _ => ⟨Hl.out, fun x hx => ⟨h1.2.2 x hx, h2 x hx⟩, h1.2.1⟩, fun _ => rfl⟩
theorem Order_ok {n : Nat} {A : Option Addr} {cap : Nat} {l : List Nat} {w : World} (hn : n ≤ 1000) (h : IntsAt w A (ints l)) (hp : IsPerm n l) :
    Calls Try.prog 18 #[.slice A n cap, .int .i64 n] w fun e w' => e = .returned .nilIface ∧ w.Since w.heap.size w' := by
  have := Order_any n A cap (ints l) w hn h (by rw [ints_len, hp.len]; omega)
  rw [ints_len, hp.len] at this
  refine this.mono fun e w' ⟨hs, c, he, hc⟩ => ?_
  have := hc.2 (perm_order hp)
  subst this
  exact ⟨he, hs⟩
end Go.Proofs.Ytlopcegpolpndaa
