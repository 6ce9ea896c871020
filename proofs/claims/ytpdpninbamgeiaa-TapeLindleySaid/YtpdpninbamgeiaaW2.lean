/- tape: container/heap over a clock. -/
import Derived.Test.YtpdpninbamgeiaaW1
namespace Go.Proofs.Ytpdpninbamgeiaa
open Go.RowKit HeapM

def lt (a b : Int) : Bool := decide (a < b)
theorem lt_ord : Ord lt := ⟨fun a b h => by simp [lt] at *; omega, fun a b c h1 h2 => by simp [lt] at *; omega⟩
def PushPost (w : World) (base p : Nat) (v : Value) (l : List Int) (e : Ending) (w' : World) : Prop := e = .returned (.tuple #[]) ∧ ∃ v', ClkAt w' base p v' l ∧ Keeps w w' p v v'
theorem grown_keeps {w w' : World} {p : Nat} {v v' : Value} (hg : w.grownBy w' v.ownBlock) (ho : v'.ownBlock = v.ownBlock ∨ v'.ownBlock = some w.heap.size) : Keeps w w' p v v' :=
  ⟨hg.os, hg.tape, hg.output, hg.size, fun k hk _ hv => hg.block k hk hv, ho.elim .inl (fun h => .inr (.inr ⟨_, h, Nat.le_refl _⟩))⟩
theorem keeps_alloc (w : World) (p : Nat) (v : Value) (o : Obj) : Keeps w (w.alloc o) p v v := ⟨rfl, rfl, rfl, by simp, fun k hk _ _ => (World.grownBy_alloc w o none).block k hk (by simp), .inl rfl⟩
theorem keeps_set (w : World) (p : Nat) (v v' : Value) (x : Value) (h : v'.ownBlock = v.ownBlock ∨ v'.ownBlock = none ∨ ∃ k, v'.ownBlock = some k ∧ w.heap.size ≤ k) : Keeps w (w.setCell ⟨p, 0, none⟩ x) p v v' :=
  ⟨rfl, rfl, rfl, by simp, fun k _ hp _ => Below.heap_setCell w ⟨p, 0, none⟩ x k hp, h⟩
theorem ta (x : Int) (w : World) : (Instr.typeAssert (.iface 3 (.int .i64 x)) 20 3 false).run Try.prog w = .ok (.int .i64 x) w := by kernel_rfl
set_option maxHeartbeats 4000000 in
theorem push_m {base p : Nat} {v : Value} {l : List Int} {w : World} (h : ClkAt w base p v l) (hB : base ≤ w.heap.size) (hp : p < w.heap.size) (x : Int) (hn : l.length ≤ 1000000000) :
    Calls Try.prog 39 #[.pointer (some ⟨p, 0, none⟩), .iface 3 (.int .i64 x)] w (PushPost w base p v (l ++ [x])) := by
  have hc := h.cell
  have hf := h.fz
  have hne := h.ne
  have H := Lib.hid h
  have hr : ∀ u t, IRow (w.alloc (.cells u t)) base false v l := fun u t => h.row.block (fun g hg => (World.grownBy_alloc w _ none).block g (h.row.lt g hg).2 (by simp))
  have Hr := Lib.hid hr
  have ha : ∀ t, (w.alloc (.cells #[Value.int .i64 x] t)).cell? ⟨w.heap.size, 0, none⟩ = some (.int .i64 x) := fun t => by rw [World.cell?_alloc_at _ _ _ _ rfl]; rfl
  have Ha := Lib.hid ha
  clear hr ha h
  have hta := fun w => ta x w
  go_enter Try.func39, Try.ntmps39
  have hgc : ∀ (W W8 : World), W.grownBy W8 v.ownBlock → W.cell? ⟨p, 0, none⟩ = some v → W8.cell? ⟨p, 0, none⟩ = some v := fun W W8 h2 h1 => h2.cell h1 (fun e => hne e.symm)
  have hgf : ∀ (W W8 : World), W.grownBy W8 v.ownBlock → p < W.heap.size → W.frozen? ⟨p, 0, none⟩ = false → W8.frozen? ⟨p, 0, none⟩ = false := fun W W8 h2 h0 h1 => by
    rw [World.frozen?_of_block (w := W) (h2.block p h0 (fun e => hne e.symm))]; exact h1
  have Hgc := Lib.hid hgc
  have Hgf := Lib.hid hgf
  have hne' := Lib.hid hne
  clear hgc hgf hne
  have hcw : ∀ u t, (w.alloc (.cells u t)).cell? ⟨p, 0, none⟩ = some v := fun u t => by rw [World.cell?_alloc_lt _ _ _ hp]; exact hc
  have hfw : ∀ u t, (w.alloc (.cells u t)).frozen? ⟨p, 0, none⟩ = false := fun u t => by
    rw [World.frozen?_of_block (w := w) ((World.grownBy_alloc w _ none).block p hp (by simp))]; exact hf
  have Hcw := Lib.hid hcw
  have Hfw := Lib.hid hfw
  have hpa : ∀ u t, p < (w.alloc (.cells u t)).heap.size := fun u t => by simp; omega
  have Hpa := Lib.hid hpa
  clear hcw hfw hpa
  have hBa : ∀ u t, base ≤ ((w.alloc (.cells u t)).drew).heap.size := fun u t => by show base ≤ (w.alloc (.cells u t)).heap.size; simp; omega
  have HBa := Lib.hid hBa
  clear hBa
  go_region_law (refine step_append_irow Try.underlying43 rfl (.tmp 7) (.tmp 10) rfl rfl (Hr.out _ _) ?_ rfl (Ha.out _) hn ?_; (first | exact HBa.out _ _ | (simp; omega)); intro v8 w8 hI hg ho; change World.grownBy _ _ v.ownBlock at hg; change _ = v.ownBlock ∨ _ at ho; have d1 := Hgc.out _ _ hg (by first | exact Hcw.out _ _ | (rw [World.cell?_drew]; exact Hcw.out _ _)); have d2 := Hgf.out _ _ hg (by first | exact Hpa.out _ _ | (rw [World.heap_drew]; exact Hpa.out _ _)) (by first | exact Hfw.out _ _ | (rw [World.frozen?_drew]; exact Hfw.out _ _)); have HI := Lib.hid hI; have Hg := Lib.hid hg; have Ho := Lib.hid ho; clear hI hg ho; obtain ⟨A8, c8, e8, _, _⟩ := HI.out.form; subst e8)
  all_goals
    go_wp2
    go_end0
    have hlen : (l ++ [x]).length = l.length + 1 := by simp
    have HI' := HI.out
    have Ho' := Ho.out
    have Hg' := Hg.out
    rw [hlen] at HI' Ho'
    have hown : ∀ k, (Value.slice A8 (l.length + 1) c8).ownBlock = some k → k ≠ p := fun k hk => by
      rcases Ho' with h1 | h1
      · rw [hk] at h1; exact fun e => hne'.out (by rw [← h1, e])
      · rw [hk] at h1
        injection h1 with h1
        have h2 : k = w.heap.size + 1 := by rw [h1]; exact World.size_alloc _ _
        omega
    refine ⟨rfl, _, ⟨World.cell?_setCell_same _ _ _ d1, ?_, HI'.block (fun g hg => ?_), fun e => hown p e rfl⟩, ((keeps_alloc w p v _).drewN 1).trans (Keeps.trans (v' := .slice A8 (l.length + 1) c8) (grown_keeps Hg' Ho') (keeps_set _ _ _ _ _ (.inl rfl)))⟩
    · rw [World.frozen?_setCell]; exact d2
    · exact Below.heap_setCell _ ⟨p, 0, none⟩ _ g (hown g hg)
end Go.Proofs.Ytpdpninbamgeiaa
