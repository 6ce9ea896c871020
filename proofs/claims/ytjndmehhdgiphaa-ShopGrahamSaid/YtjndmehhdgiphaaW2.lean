/- shop: Johnson's comparison; Johnson. -/
import Derived.Test.YtjndmehhdgiphaaW1
import Derived.Test.YtjndmehhdgiphaaStabE
namespace Go.Proofs.Ytjndmehhdgiphaa
open Go.RowKit PermM StabM FlowM

set_option maxHeartbeats 4000000 in
theorem jc_any {A : Option Addr} {cap : Nat} {js : List Duo} (t : DuosOk js) {p2 : Nat} {W : World} (h : DuoAt W A js)
    (k2 : W.cell? ⟨p2, 0, none⟩ = some (.slice A js.length cap)) {x y : Nat} (hx : x < js.length) (hy : y < js.length) :
    Calls Try.prog 18 #[.int .i64 (x : Nat), .int .i64 (y : Nat), .pointer (some ⟨p2, 0, none⟩)] W fun e w' => e = .returned (.int .i64 (jcmp (fa js) (fb js) x y)) ∧ W.Since W.heap.size w' := by
  obtain ⟨b, off, rfl, hb, hc⟩ := h x hx
  obtain ⟨u, hu⟩ : ∃ u, js[x]? = some u := ⟨js[x], List.getElem?_eq_getElem hx⟩
  obtain ⟨v, hv⟩ : ∃ v, js[y]? = some v := ⟨js[y], List.getElem?_eq_getElem hy⟩
  obtain ⟨c0, c1⟩ := hc x u hu
  obtain ⟨d0, d1⟩ := hc y v hv
  obtain ⟨u1, u2⟩ := duo_at hu
  obtain ⟨v1, v2⟩ := duo_at hv
  have hxz : (x : Int) < (js.length : Int) := by omega
  have hyz : (y : Int) < (js.length : Int) := by omega
  have bx := duo_bd t x
  have bY := duo_bd t y
  have hcf : jcmp (fa js) (fb js) x y = if u.1 ≤ u.2 then (if v.1 ≤ v.2 then u.1 - v.1 else -1) else (if v.1 ≤ v.2 then 1 else v.2 - u.2) := by
    unfold jcmp
    rw [u1, u2, v1, v2]
  rw [u1, u2] at bx
  rw [v1, v2] at bY
  obtain ⟨r, hr⟩ : ∃ r, r = jcmp (fa js) (fb js) x y := ⟨_, rfl⟩
  rw [← hr]
  rw [hcf] at hr
  obtain ⟨x1, x2⟩ := u
  obtain ⟨y1, y2⟩ := v
  simp only at c0 c1 d0 d1 bx bY hr
  have Hr := Lib.hid hr
  clear hr
  obtain ⟨⟨q1, q2⟩, q3, q4⟩ := bx
  obtain ⟨⟨r1, r2⟩, r3, r4⟩ := bY
  clear hc hu hv u1 u2 v1 v2 hcf t h
  go_enter Try.func18, Try.ntmps18
  have hp2 := World.block_lt_of_cell? _ _ k2
  simp only at hp2
  have e1 : ∀ blk o (u : Array Value), blk < W.heap.size → (W.alloc (Obj.cells u 45)).cell? ⟨blk, o, none⟩ = W.cell? ⟨blk, o, none⟩ := fun blk o u h => World.cell?_alloc_lt _ _ _ (by simpa using h)
  have e2 : ∀ blk o (u v : Array Value), blk < W.heap.size → ((W.alloc (Obj.cells u 45)).alloc (Obj.cells v 45)).cell? ⟨blk, o, none⟩ = W.cell? ⟨blk, o, none⟩ := fun blk o u v h => by
    rw [World.cell?_alloc_lt _ _ _ (by simp; omega), e1 _ _ _ h]
  have m0 := (e1 p2 0 #[.int .i64 0, .int .i64 0] hp2).trans k2
  have m1 := (e2 p2 0 #[.int .i64 0, .int .i64 0] #[.int .i64 0, .int .i64 0] hp2).trans k2
  have m2 := (e2 p2 0 #[.int .i64 0, .int .i64 0] #[.int .i64 x1, .int .i64 x2] hp2).trans k2
  have m3 := (e2 p2 0 #[.int .i64 0, .int .i64 0] #[.int .i64 y1, .int .i64 y2] hp2).trans k2
  have m4 := (e1 p2 0 #[.int .i64 x1, .int .i64 x2] hp2).trans k2
  have m5 := (e2 p2 0 #[.int .i64 x1, .int .i64 x2] #[.int .i64 0, .int .i64 0] hp2).trans k2
  have m6 := (e2 p2 0 #[.int .i64 x1, .int .i64 x2] #[.int .i64 x1, .int .i64 x2] hp2).trans k2
  have m7 := (e2 p2 0 #[.int .i64 x1, .int .i64 x2] #[.int .i64 y1, .int .i64 y2] hp2).trans k2
  have m8 := (e1 p2 0 #[.int .i64 y1, .int .i64 y2] hp2).trans k2
  have m9 := (e2 p2 0 #[.int .i64 y1, .int .i64 y2] #[.int .i64 0, .int .i64 0] hp2).trans k2
  have m10 := (e2 p2 0 #[.int .i64 y1, .int .i64 y2] #[.int .i64 x1, .int .i64 x2] hp2).trans k2
  have m11 := (e2 p2 0 #[.int .i64 y1, .int .i64 y2] #[.int .i64 y1, .int .i64 y2] hp2).trans k2
  have m12 := (e1 b (off + x * 2) #[.int .i64 0, .int .i64 0] hb).trans c0
  have m13 := (e2 b (off + x * 2) #[.int .i64 0, .int .i64 0] #[.int .i64 0, .int .i64 0] hb).trans c0
  have m14 := (e2 b (off + x * 2) #[.int .i64 0, .int .i64 0] #[.int .i64 x1, .int .i64 x2] hb).trans c0
  have m15 := (e2 b (off + x * 2) #[.int .i64 0, .int .i64 0] #[.int .i64 y1, .int .i64 y2] hb).trans c0
  have m16 := (e1 b (off + x * 2) #[.int .i64 x1, .int .i64 x2] hb).trans c0
  have m17 := (e2 b (off + x * 2) #[.int .i64 x1, .int .i64 x2] #[.int .i64 0, .int .i64 0] hb).trans c0
  have m18 := (e2 b (off + x * 2) #[.int .i64 x1, .int .i64 x2] #[.int .i64 x1, .int .i64 x2] hb).trans c0
  have m19 := (e2 b (off + x * 2) #[.int .i64 x1, .int .i64 x2] #[.int .i64 y1, .int .i64 y2] hb).trans c0
  have m20 := (e1 b (off + x * 2) #[.int .i64 y1, .int .i64 y2] hb).trans c0
  have m21 := (e2 b (off + x * 2) #[.int .i64 y1, .int .i64 y2] #[.int .i64 0, .int .i64 0] hb).trans c0
  have m22 := (e2 b (off + x * 2) #[.int .i64 y1, .int .i64 y2] #[.int .i64 x1, .int .i64 x2] hb).trans c0
  have m23 := (e2 b (off + x * 2) #[.int .i64 y1, .int .i64 y2] #[.int .i64 y1, .int .i64 y2] hb).trans c0
  have m24 := (e1 b (off + x * 2 + 1) #[.int .i64 0, .int .i64 0] hb).trans c1
  have m25 := (e2 b (off + x * 2 + 1) #[.int .i64 0, .int .i64 0] #[.int .i64 0, .int .i64 0] hb).trans c1
  have m26 := (e2 b (off + x * 2 + 1) #[.int .i64 0, .int .i64 0] #[.int .i64 x1, .int .i64 x2] hb).trans c1
  have m27 := (e2 b (off + x * 2 + 1) #[.int .i64 0, .int .i64 0] #[.int .i64 y1, .int .i64 y2] hb).trans c1
  have m28 := (e1 b (off + x * 2 + 1) #[.int .i64 x1, .int .i64 x2] hb).trans c1
  have m29 := (e2 b (off + x * 2 + 1) #[.int .i64 x1, .int .i64 x2] #[.int .i64 0, .int .i64 0] hb).trans c1
  have m30 := (e2 b (off + x * 2 + 1) #[.int .i64 x1, .int .i64 x2] #[.int .i64 x1, .int .i64 x2] hb).trans c1
  have m31 := (e2 b (off + x * 2 + 1) #[.int .i64 x1, .int .i64 x2] #[.int .i64 y1, .int .i64 y2] hb).trans c1
  have m32 := (e1 b (off + x * 2 + 1) #[.int .i64 y1, .int .i64 y2] hb).trans c1
  have m33 := (e2 b (off + x * 2 + 1) #[.int .i64 y1, .int .i64 y2] #[.int .i64 0, .int .i64 0] hb).trans c1
  have m34 := (e2 b (off + x * 2 + 1) #[.int .i64 y1, .int .i64 y2] #[.int .i64 x1, .int .i64 x2] hb).trans c1
  have m35 := (e2 b (off + x * 2 + 1) #[.int .i64 y1, .int .i64 y2] #[.int .i64 y1, .int .i64 y2] hb).trans c1
  have m36 := (e1 b (off + y * 2) #[.int .i64 0, .int .i64 0] hb).trans d0
  have m37 := (e2 b (off + y * 2) #[.int .i64 0, .int .i64 0] #[.int .i64 0, .int .i64 0] hb).trans d0
  have m38 := (e2 b (off + y * 2) #[.int .i64 0, .int .i64 0] #[.int .i64 x1, .int .i64 x2] hb).trans d0
  have m39 := (e2 b (off + y * 2) #[.int .i64 0, .int .i64 0] #[.int .i64 y1, .int .i64 y2] hb).trans d0
  have m40 := (e1 b (off + y * 2) #[.int .i64 x1, .int .i64 x2] hb).trans d0
  have m41 := (e2 b (off + y * 2) #[.int .i64 x1, .int .i64 x2] #[.int .i64 0, .int .i64 0] hb).trans d0
  have m42 := (e2 b (off + y * 2) #[.int .i64 x1, .int .i64 x2] #[.int .i64 x1, .int .i64 x2] hb).trans d0
  have m43 := (e2 b (off + y * 2) #[.int .i64 x1, .int .i64 x2] #[.int .i64 y1, .int .i64 y2] hb).trans d0
  have m44 := (e1 b (off + y * 2) #[.int .i64 y1, .int .i64 y2] hb).trans d0
  have m45 := (e2 b (off + y * 2) #[.int .i64 y1, .int .i64 y2] #[.int .i64 0, .int .i64 0] hb).trans d0
  have m46 := (e2 b (off + y * 2) #[.int .i64 y1, .int .i64 y2] #[.int .i64 x1, .int .i64 x2] hb).trans d0
  have m47 := (e2 b (off + y * 2) #[.int .i64 y1, .int .i64 y2] #[.int .i64 y1, .int .i64 y2] hb).trans d0
  have m48 := (e1 b (off + y * 2 + 1) #[.int .i64 0, .int .i64 0] hb).trans d1
  have m49 := (e2 b (off + y * 2 + 1) #[.int .i64 0, .int .i64 0] #[.int .i64 0, .int .i64 0] hb).trans d1
  have m50 := (e2 b (off + y * 2 + 1) #[.int .i64 0, .int .i64 0] #[.int .i64 x1, .int .i64 x2] hb).trans d1
  have m51 := (e2 b (off + y * 2 + 1) #[.int .i64 0, .int .i64 0] #[.int .i64 y1, .int .i64 y2] hb).trans d1
  have m52 := (e1 b (off + y * 2 + 1) #[.int .i64 x1, .int .i64 x2] hb).trans d1
  have m53 := (e2 b (off + y * 2 + 1) #[.int .i64 x1, .int .i64 x2] #[.int .i64 0, .int .i64 0] hb).trans d1
  have m54 := (e2 b (off + y * 2 + 1) #[.int .i64 x1, .int .i64 x2] #[.int .i64 x1, .int .i64 x2] hb).trans d1
  have m55 := (e2 b (off + y * 2 + 1) #[.int .i64 x1, .int .i64 x2] #[.int .i64 y1, .int .i64 y2] hb).trans d1
  have m56 := (e1 b (off + y * 2 + 1) #[.int .i64 y1, .int .i64 y2] hb).trans d1
  have m57 := (e2 b (off + y * 2 + 1) #[.int .i64 y1, .int .i64 y2] #[.int .i64 0, .int .i64 0] hb).trans d1
  have m58 := (e2 b (off + y * 2 + 1) #[.int .i64 y1, .int .i64 y2] #[.int .i64 x1, .int .i64 x2] hb).trans d1
  have m59 := (e2 b (off + y * 2 + 1) #[.int .i64 y1, .int .i64 y2] #[.int .i64 y1, .int .i64 y2] hb).trans d1
  clear e1 e2
  go_wp2
  go_region
  all_goals clear m0 m1 m2 m3 m4 m5 m6 m7 m8 m9 m10 m11 m12 m13 m14 m15 m16 m17 m18 m19 m20 m21 m22 m23 m24 m25 m26 m27 m28 m29 m30 m31 m32 m33 m34 m35 m36 m37 m38 m39 m40 m41 m42 m43 m44 m45 m46 m47 m48 m49 m50 m51 m52 m53 m54 m55 m56 m57 m58 m59
  · have g0 : ((W.alloc (Obj.cells #[Value.int IntKind.i64 x1, Value.int IntKind.i64 x2] 45)).alloc (Obj.cells #[Value.int IntKind.i64 y1, Value.int IntKind.i64 y2] 45)).cell? ⟨W.heap.size, 0, none⟩ = some (.int .i64 x1) := by simp
    have g1 : ((W.alloc (Obj.cells #[Value.int IntKind.i64 x1, Value.int IntKind.i64 x2] 45)).alloc (Obj.cells #[Value.int IntKind.i64 y1, Value.int IntKind.i64 y2] 45)).cell? ⟨W.heap.size, 1, none⟩ = some (.int .i64 x2) := by simp
    have g2 : ((W.alloc (Obj.cells #[Value.int IntKind.i64 x1, Value.int IntKind.i64 x2] 45)).alloc (Obj.cells #[Value.int IntKind.i64 y1, Value.int IntKind.i64 y2] 45)).cell? ⟨W.heap.size + 1, 0, none⟩ = some (.int .i64 y1) := by simp
    have g3 : ((W.alloc (Obj.cells #[Value.int IntKind.i64 x1, Value.int IntKind.i64 x2] 45)).alloc (Obj.cells #[Value.int IntKind.i64 y1, Value.int IntKind.i64 y2] 45)).cell? ⟨W.heap.size + 1, 1, none⟩ = some (.int .i64 y2) := by simp
    have hs : W.Since W.heap.size ((W.alloc (Obj.cells #[Value.int IntKind.i64 x1, Value.int IntKind.i64 x2] 45)).alloc (Obj.cells #[Value.int IntKind.i64 y1, Value.int IntKind.i64 y2] 45)) := ((World.Since.refl _ _).alloc (Nat.le_refl _) _).alloc (by simp) _
    generalize ((W.alloc (Obj.cells #[Value.int IntKind.i64 x1, Value.int IntKind.i64 x2] 45)).alloc (Obj.cells #[Value.int IntKind.i64 y1, Value.int IntKind.i64 y2] 45)) = V at *
    by_cases h1 : x1 ≤ x2 <;> by_cases h2 : y1 ≤ y2
    · have hr := Hr.out
      rw [if_pos h1, if_pos h2] at hr
      subst hr
      go_wp2
      go_region
      go_wp2
      go_ret
      first | exact ⟨rfl, hs.drew.drew⟩ | exact ⟨rfl, hs.drew⟩ | exact ⟨rfl, hs.drew.drew.drew⟩ | exact ⟨rfl, since_drewN hs _⟩
    · have hr := Hr.out
      rw [if_pos h1, if_neg h2] at hr
      subst hr
      have h2' : y2 < y1 := by omega
      clear h2
      go_wp2
      go_region
      go_wp2
      go_ret
      first | exact ⟨rfl, hs.drew.drew⟩ | exact ⟨rfl, hs.drew⟩ | exact ⟨rfl, hs.drew.drew.drew⟩ | exact ⟨rfl, since_drewN hs _⟩
    · have hr := Hr.out
      rw [if_neg h1, if_pos h2] at hr
      subst hr
      have h1' : x2 < x1 := by omega
      clear h1
      go_wp2
      go_region
      go_wp2
      go_ret
      first | exact ⟨rfl, hs.drew.drew⟩ | exact ⟨rfl, hs.drew⟩ | exact ⟨rfl, hs.drew.drew.drew⟩ | exact ⟨rfl, since_drewN hs _⟩
    · have hr := Hr.out
      rw [if_neg h1, if_neg h2] at hr
      subst hr
      have h1' : x2 < x1 := by omega
      have h2' : y2 < y1 := by omega
      clear h1 h2
      go_wp2
      go_region
      go_wp2
      go_ret
      first | exact ⟨rfl, hs.drew.drew⟩ | exact ⟨rfl, hs.drew⟩ | exact ⟨rfl, hs.drew.drew.drew⟩ | exact ⟨rfl, since_drewN hs _⟩
  · have g0 : ((W.alloc (Obj.cells #[Value.int IntKind.i64 y1, Value.int IntKind.i64 y2] 45)).alloc (Obj.cells #[Value.int IntKind.i64 x1, Value.int IntKind.i64 x2] 45)).cell? ⟨W.heap.size + 1, 0, none⟩ = some (.int .i64 x1) := by simp
    have g1 : ((W.alloc (Obj.cells #[Value.int IntKind.i64 y1, Value.int IntKind.i64 y2] 45)).alloc (Obj.cells #[Value.int IntKind.i64 x1, Value.int IntKind.i64 x2] 45)).cell? ⟨W.heap.size + 1, 1, none⟩ = some (.int .i64 x2) := by simp
    have g2 : ((W.alloc (Obj.cells #[Value.int IntKind.i64 y1, Value.int IntKind.i64 y2] 45)).alloc (Obj.cells #[Value.int IntKind.i64 x1, Value.int IntKind.i64 x2] 45)).cell? ⟨W.heap.size, 0, none⟩ = some (.int .i64 y1) := by simp
    have g3 : ((W.alloc (Obj.cells #[Value.int IntKind.i64 y1, Value.int IntKind.i64 y2] 45)).alloc (Obj.cells #[Value.int IntKind.i64 x1, Value.int IntKind.i64 x2] 45)).cell? ⟨W.heap.size, 1, none⟩ = some (.int .i64 y2) := by simp
    have hs : W.Since W.heap.size ((W.alloc (Obj.cells #[Value.int IntKind.i64 y1, Value.int IntKind.i64 y2] 45)).alloc (Obj.cells #[Value.int IntKind.i64 x1, Value.int IntKind.i64 x2] 45)) := ((World.Since.refl _ _).alloc (Nat.le_refl _) _).alloc (by simp) _
    generalize ((W.alloc (Obj.cells #[Value.int IntKind.i64 y1, Value.int IntKind.i64 y2] 45)).alloc (Obj.cells #[Value.int IntKind.i64 x1, Value.int IntKind.i64 x2] 45)) = V at *
    by_cases h1 : x1 ≤ x2 <;> by_cases h2 : y1 ≤ y2
    · have hr := Hr.out
      rw [if_pos h1, if_pos h2] at hr
      subst hr
      go_wp2
      go_region
      go_wp2
      go_ret
      first | exact ⟨rfl, hs.drew.drew⟩ | exact ⟨rfl, hs.drew⟩ | exact ⟨rfl, hs.drew.drew.drew⟩ | exact ⟨rfl, since_drewN hs _⟩
    · have hr := Hr.out
      rw [if_pos h1, if_neg h2] at hr
      subst hr
      have h2' : y2 < y1 := by omega
      clear h2
      go_wp2
      go_region
      go_wp2
      go_ret
      first | exact ⟨rfl, hs.drew.drew⟩ | exact ⟨rfl, hs.drew⟩ | exact ⟨rfl, hs.drew.drew.drew⟩ | exact ⟨rfl, since_drewN hs _⟩
    · have hr := Hr.out
      rw [if_neg h1, if_pos h2] at hr
      subst hr
      have h1' : x2 < x1 := by omega
      clear h1
      go_wp2
      go_region
      go_wp2
      go_ret
      first | exact ⟨rfl, hs.drew.drew⟩ | exact ⟨rfl, hs.drew⟩ | exact ⟨rfl, hs.drew.drew.drew⟩ | exact ⟨rfl, since_drewN hs _⟩
    · have hr := Hr.out
      rw [if_neg h1, if_neg h2] at hr
      subst hr
      have h1' : x2 < x1 := by omega
      have h2' : y2 < y1 := by omega
      clear h1 h2
      go_wp2
      go_region
      go_wp2
      go_ret
      first | exact ⟨rfl, hs.drew.drew⟩ | exact ⟨rfl, hs.drew⟩ | exact ⟨rfl, hs.drew.drew.drew⟩ | exact ⟨rfl, since_drewN hs _⟩
end Go.Proofs.Ytjndmehhdgiphaa
