/- shop: Hu's closures; the first steps of Hu. -/
import Derived.Test.YtjndmehhdgiphaaW9
import Derived.Test.YtjndmehhdgiphaaHuS
import Derived.Test.YtjndmehhdgiphaaIRow
import Derived.Deep.RegionHeld3
namespace Go.Proofs.Ytjndmehhdgiphaa
open Go.RowKit PermM StabM McM HuM

def farH (n x : Int) : Bool := decide (x < -1) || decide (n ≤ x)
theorem hu1_any (n x : Int) (p : Nat) (w : World) (hc : w.cell? ⟨p, 0, none⟩ = some (.int .i64 n)) : Calls Try.prog 23 #[.int .i64 x, .pointer (some ⟨p, 0, none⟩)] w fun e w' => e = .returned (.bool (farH n x)) ∧ w = w' := by
  have h : Hid (farH n x = (decide (x < -1) || decide (n ≤ x))) := Lib.hid rfl
  by_cases h1 : x < -1
  · go_enter Try.func23, Try.ntmps23
    go_wp2
    go_ret
    exact ⟨by rw [h.out]; simp [h1], rfl⟩
  · have h1' : -1 ≤ x := by omega
    by_cases h2 : n ≤ x
    · go_enter Try.func23, Try.ntmps23
      go_wp2
      go_ret
      exact ⟨by rw [h.out]; simp [h2], rfl⟩
    · have h2' : x < n := by omega
      go_enter Try.func23, Try.ntmps23
      go_wp2
      go_ret
      exact ⟨by rw [h.out]; simp [h1', h2'], rfl⟩
theorem enters23 : ∀ args w, (callFunc 23 args).run Try.prog w = .ok (.enter 23 args) w := fun _ _ => by kernel_rfl
theorem enters24 : ∀ args w, (callFunc 24 args).run Try.prog w = .ok (.enter 24 args) w := fun _ _ => by kernel_rfl
theorem farH_iff (n : Int) (r : List Int) : r.any (farH n) = false ↔ ∀ x ∈ r, -1 ≤ x ∧ x < n := by simp [farH]
/-- by level, the greater first -/
def lcmp (lf : Nat → Int) (x y : Nat) : Int := lf y - lf x
set_option maxHeartbeats 2000000 in
theorem hu2_any {lf : Nat → Int} {n : Nat} (hlf : ∀ i, i < n → 0 ≤ lf i ∧ lf i ≤ 1000) {x y p7 bl : Nat} {W : World} (hc : W.cell? ⟨p7, 0, none⟩ = some (.slice (some ⟨bl, 0, none⟩) n n)) (hr : W.rowIs bl 3 n (fun i => .int .i64 (lf i))) (hx : x < n) (hy : y < n) :
    Calls Try.prog 24 #[.int .i64 (x : Nat), .int .i64 (y : Nat), .pointer (some ⟨p7, 0, none⟩)] W fun e w' => e = .returned (.int .i64 (lcmp lf x y)) ∧ W.Since W.heap.size w' := by
  have c1 := hr.cell hx
  have c2 := hr.cell hy
  obtain ⟨x0, x1⟩ := hlf x hx
  obtain ⟨y0, y1⟩ := hlf y hy
  have hd : Hid (lcmp lf x y = lf y - lf x) := Lib.hid rfl
  have hxz : (x : Int) < (n : Int) := by omega
  have hyz : (y : Int) < (n : Int) := by omega
  generalize lf x = a at *
  generalize lf y = b at *
  clear hr hlf
  go_enter Try.func24, Try.ntmps24
  go_wp2
  go_quiet (fail)
  go_wp2
  go_ret
  exact ⟨by rw [hd.out]; rfl, since_drewN (World.Since.refl _ _) _⟩
theorem pre_lcmp (lf : Nat → Int) (n : Nat) : Pre n (leC (lcmp lf)) := by
  refine ⟨fun x y _ _ => ?_, fun x y z _ _ _ h1 h2 => ?_⟩
  · unfold leC lcmp; omega
  · unfold leC lcmp at *; omega
/-- Hu's memory -/
structure HuW (w wr : World) (p6 p7 bl bw n : Nat) (lf wf : Nat → Int) : Prop where
  since : w.Since w.heap.size wr
  c6 : wr.cell? ⟨p6, 0, none⟩ = some (.int .i64 (n : Int))
  c7 : wr.cell? ⟨p7, 0, none⟩ = some (.slice (some ⟨bl, 0, none⟩) n n)
  rl : wr.rowIs bl 3 n (fun i => .int .i64 (lf i))
  rw : wr.rowIs bw 3 n (fun i => .int .i64 (wf i))
structure Apart (w : World) (p6 p7 bl bw : Nat) : Prop where
  b6 : w.heap.size ≤ p6
  b7 : w.heap.size ≤ p7
  hl : w.heap.size ≤ bl
  hw : w.heap.size ≤ bw
  n1 : p6 ≠ p7
  n2 : p6 ≠ bl
  n3 : p6 ≠ bw
  n4 : p7 ≠ bl
  n5 : p7 ≠ bw
  n6 : bl ≠ bw
theorem hu_heap (w : World) (o0 o1 o2 o3 : Obj) : w.Since w.heap.size ((((w.alloc o0).alloc o1).alloc o2).alloc o3).drew ∧ ((((w.alloc o0).alloc o1).alloc o2).alloc o3).drew.heap[w.heap.size]? = some o0 ∧ ((((w.alloc o0).alloc o1).alloc o2).alloc o3).drew.heap[w.heap.size + 1]? = some o1 ∧
    ((((w.alloc o0).alloc o1).alloc o2).alloc o3).drew.heap[w.heap.size + 1 + 1]? = some o2 ∧ ((((w.alloc o0).alloc o1).alloc o2).alloc o3).drew.heap[w.heap.size + 1 + 1 + 1]? = some o3 := by
  refine ⟨((((World.Since.refl _ _).alloc (Nat.le_refl _) _).alloc (by simp) _).alloc (by simp; omega) _).alloc (by simp; omega) _ |>.drew, ?_, ?_, ?_, ?_⟩
  · show (World.alloc _ _).heap[_]? = _
    rw [heap_alloc_old _ _ (by simp; omega), heap_alloc_old _ _ (by simp; omega), heap_alloc_old _ _ (by simp)]; exact heap_alloc_new _ _
  · show (World.alloc _ _).heap[_]? = _
    rw [heap_alloc_old _ _ (by simp), heap_alloc_old _ _ (by simp)]
    have := heap_alloc_new (w.alloc o0) o1
    simpa using this
  · show (World.alloc _ _).heap[_]? = _
    rw [heap_alloc_old _ _ (by simp)]
    have := heap_alloc_new ((w.alloc o0).alloc o1) o2
    simpa using this
  · show (World.alloc _ _).heap[_]? = _
    have := heap_alloc_new (((w.alloc o0).alloc o1).alloc o2) o3
    simpa using this
theorem made_row {W : World} {b n : Nat} (h : W.heap[b]? = some (.cells (madeCells #[Value.int .i64 0] n) 3)) : W.rowIs b 3 n (fun _ => .int .i64 0) := by
  have := World.rowIs_made W (.int .i64 0) n 3
  obtain ⟨c, hc, hs, hx⟩ := this
  rw [heap_alloc_new] at hc
  injection hc with hc
  injection hc with hc _
  exact ⟨c, by rw [h, hc], hs, hx⟩
theorem hu_mem {w W : World} {p7 bl bw n : Nat} (hs : w.Since w.heap.size W) (h6 : W.heap[w.heap.size]? = some (.cells #[Value.int .i64 (n : Int)] 3)) (h7 : W.heap[p7]? = some (.cells #[Value.slice (some ⟨bl, 0, none⟩) n n] 23))
    (hl : W.heap[bl]? = some (.cells (madeCells #[Value.int .i64 0] n) 3)) (hw : W.heap[bw]? = some (.cells (madeCells #[Value.int .i64 0] n) 3)) : HuW w W w.heap.size p7 bl bw n (fun _ => 0) (fun _ => 0) :=
  ⟨hs, by simp [World.cell?, h6], by simp [World.cell?, h7], made_row hl, made_row hw⟩
end Go.Proofs.Ytjndmehhdgiphaa
