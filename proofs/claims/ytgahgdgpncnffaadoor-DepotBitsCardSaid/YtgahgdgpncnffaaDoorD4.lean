/- depot: a move is done. -/
import Derived.Test.YtgahgdgpncnffaaDoorD3
import Derived.WalkSpells
namespace Go.Proofs.YtgahgdgpncnffaaDoor
open Go.RowKit Go.Lib DepM Go.Sort Go.Maps

/-- a depot in memory, its parts apart -/
structure DepG (w : World) (B db k N : Nat) (js : Bs) (hvf : Bs → Int) (mv jv : Value) : Prop where
  c0 : w.cell? ⟨db, 0, none⟩ = some mv
  c1 : w.cell? ⟨db, 1, none⟩ = some jv
  c2 : w.cell? ⟨db, 2, none⟩ = some (.int .i64 (k : Int))
  fz : ∀ i, w.frozen? ⟨db, i, none⟩ = false
  low : B ≤ db
  row : w.ownsRow B 5 1 jv js.length (strCells (strB js))
  ne : jv.ownBlock ≠ some db
  map : HvMap w B mv N hvf
  nm : ∀ b, mv = .map (some b) → b ≠ db ∧ jv.ownBlock ≠ some b
  tag : Tag w db
section
variable {w w' : World} {B db k N : Nat} {js : Bs} {hvf : Bs → Int} {mv jv : Value}
theorem DepMem.g {acc : List Mv} (h : DepMem w B db acc mv jv) : DepG w B db acc.length acc.length (J acc) (hv acc) mv jv := ⟨h.c0, h.c1, h.c2, h.fz, h.low, h.row, h.ne, h.map, h.nm, h.tag⟩
theorem DepG.mem {acc : List Mv} (h : DepG w B db acc.length acc.length (J acc) (hv acc) mv jv) : DepMem w B db acc mv jv := ⟨h.c0, h.c1, h.c2, h.fz, h.low, h.row, h.ne, h.map, h.nm, h.tag⟩
theorem DepG.lt (h : DepG w B db k N js hvf mv jv) : db < w.heap.size := World.block_lt_of_cell? _ _ h.c0
theorem DepG.since (h : DepG w B db k N js hvf mv jv) (hs : w.Since w.heap.size w') : DepG w' B db k N js hvf mv jv := by
  have hl := h.lt
  exact ⟨by rw [hs.cell hl]; exact h.c0, by rw [hs.cell hl]; exact h.c1, by rw [hs.cell hl]; exact h.c2, fun i => by rw [hs.frozen (a := ⟨db, i, none⟩) hl]; exact h.fz i, h.low,
    own_keep h.row (fun g hg => hs.block g (h.row.lt g hg).2), h.ne, h.map.kept (since_gb hs) (by simp), h.nm, h.tag.block (hs.block db hl)⟩
theorem gb_set (w : World) (b i : Nat) (v : Value) : w.grownBy (w.setCell ⟨b, i, none⟩ v) (some b) := ⟨rfl, rfl, rfl, by simp [World.setCell], fun j _ hj => Below.heap_setCell w ⟨b, i, none⟩ v j (fun e => hj (by rw [e]))⟩
theorem cell_ne (w : World) (b i j : Nat) (v : Value) (h : i ≠ j) : (w.setCell ⟨b, i, none⟩ v).cell? ⟨b, j, none⟩ = w.cell? ⟨b, j, none⟩ := by
  rw [World.cell?_setCell_other _ _ _ _ (by intro e; injection e; omega)]
/-- a store into the depot's own block -/
theorem DepG.frame (h : DepG w B db k N js hvf mv jv) (i : Nat) (v : Value) : (∀ j, (w.setCell ⟨db, i, none⟩ v).frozen? ⟨db, j, none⟩ = false) ∧ (w.setCell ⟨db, i, none⟩ v).ownsRow B 5 1 jv js.length (strCells (strB js)) ∧ HvMap (w.setCell ⟨db, i, none⟩ v) B mv N hvf :=
  ⟨fun j => by simpa using h.fz j, own_keep h.row (fun g hg => Below.heap_setCell w ⟨db, i, none⟩ v g (fun e => h.ne (by rw [hg]; exact congrArg some e))), h.map.kept (gb_set w db i v) (fun b hb e => (h.nm b hb).1 (by injection e))⟩
theorem DepG.setMoves (h : DepG w B db k N js hvf mv jv) (k' : Nat) : DepG (w.setCell ⟨db, 2, none⟩ (.int .i64 (k' : Int))) B db k' N js hvf mv jv := by
  obtain ⟨f1, f2, f3⟩ := h.frame 2 (.int .i64 (k' : Int))
  exact ⟨by rw [cell_ne _ _ _ _ _ (by omega)]; exact h.c0, by rw [cell_ne _ _ _ _ _ (by omega)]; exact h.c1, World.cell?_setCell_same _ _ _ h.c2, f1, h.low, f2, h.ne, f3, h.nm, h.tag.set _ _⟩
theorem DepG.setMap (h : DepG w B db k N js hvf mv jv) {mv' : Value} {N' : Nat} {hvf' : Bs → Int} (hm : HvMap w B mv' N' hvf') (hn : ∀ b, mv' = .map (some b) → b ≠ db ∧ jv.ownBlock ≠ some b) : DepG (w.setCell ⟨db, 0, none⟩ mv') B db k N' js hvf' mv' jv := by
  obtain ⟨f1, f2, _⟩ := h.frame 0 mv'
  exact ⟨World.cell?_setCell_same _ _ _ h.c0, by rw [cell_ne _ _ _ _ _ (by omega)]; exact h.c1, by rw [cell_ne _ _ _ _ _ (by omega)]; exact h.c2, f1, h.low, f2, h.ne, hm.kept (gb_set w db 0 mv') (fun b hb e => (hn b hb).1 (by injection e)), hn, h.tag.set _ _⟩
theorem DepG.mapped (h : DepG w B db k N js hvf mv jv) {mb N' : Nat} {hvf' : Bs → Int} (hmv : mv = .map (some mb)) (hg : w.grownBy w' (some mb)) (hm : HvMap w' B mv N' hvf') : DepG w' B db k N' js hvf' mv jv := by
  obtain ⟨n1, n2⟩ := h.nm mb hmv
  have hb : w'.heap[db]? = w.heap[db]? := hg.block db h.lt (fun e => n1 (by injection e with e; exact e.symm))
  exact ⟨by rw [World.cell?_of_block (w := w) (a := ⟨db, 0, none⟩) hb]; exact h.c0, by rw [World.cell?_of_block (w := w) (a := ⟨db, 1, none⟩) hb]; exact h.c1, by rw [World.cell?_of_block (w := w) (a := ⟨db, 2, none⟩) hb]; exact h.c2, fun i => by rw [World.frozen?_of_block (w := w) (a := ⟨db, i, none⟩) hb]; exact h.fz i, h.low,
    own_keep h.row (fun g hg' => hg.block g (h.row.lt g hg').2 (fun e => n2 (by rw [hg', e]))), h.ne, hm, h.nm, h.tag.block hb⟩
theorem DepG.setJournal (h : DepG w B db k N js hvf mv jv) {w8 : World} {jv' : Value} {js' : Bs} (hg : w.grownBy w8 jv.ownBlock) (hr : w8.ownsRow B 5 1 jv' js'.length (strCells (strB js'))) : DepG (w8.setCell ⟨db, 1, none⟩ jv') B db k N js' hvf mv jv' := by
  have hb : w8.heap[db]? = w.heap[db]? := hg.block db h.lt (fun e => h.ne e.symm)
  have ht : Tag w8 db := h.tag.block hb
  have hm8 : HvMap w8 B mv N hvf := h.map.kept hg (fun b hb e => (h.nm b hb).2 e.symm)
  have hc : ∀ i, w8.cell? ⟨db, i, none⟩ = w.cell? ⟨db, i, none⟩ := fun i => World.cell?_of_block (w := w) (a := ⟨db, i, none⟩) hb
  have hne := ht.ne hr
  have hnm : ∀ b, mv = .map (some b) → b ≠ db ∧ jv'.ownBlock ≠ some b := fun b hb => by
    refine ⟨(h.nm b hb).1, ?_⟩
    rcases hm8 with ⟨e1, _⟩ | ⟨mb', _, _, e1, _, _, ho, _⟩
    · rw [hb] at e1; cases e1
    · rw [hb] at e1
      injection e1 with e1
      injection e1 with e1
      subst e1
      exact map_ne ho hr
  refine ⟨by rw [cell_ne _ _ _ _ _ (by omega), hc]; exact h.c0, World.cell?_setCell_same _ _ _ ((hc 1).trans h.c1), by rw [cell_ne _ _ _ _ _ (by omega), hc]; exact h.c2, fun j => ?_, h.low, own_keep hr (fun g hg => Below.heap_setCell w8 ⟨db, 1, none⟩ jv' g (fun e => hne (by rw [hg]; exact congrArg some e))), hne, hm8.kept (gb_set w8 db 1 jv') (fun b hb e => (hnm b hb).1 (by injection e)), hnm, ht.set _ _⟩
  have := World.frozen?_of_block (w := w) (w' := w8) (a := ⟨db, j, none⟩) hb
  simpa [this] using h.fz j
end
/-- append of a string's bytes, at a step of a region that draws -/
theorem step_append_str {P : Program} (w : World) {ops : Array Oper} {o : Oper} {a : Act} {K : Act → World → Prop} {Q : Exit → Act → World → Prop} {E : Prop} (hgd : o.guard = none) (sl x : Operand) (t u : TypeId)
    (ho : o.op = .call { callee := .builtin .append, args := #[sl, x], argTypes := #[t, u] })
    (base : Nat) (e : TypeId) (i : TypeInfo) (ht : P.underlying t = some (.slice e)) (hu : P.underlying u = some .string) (hi : P.info? e = some i) (hz : i.zero = some (.int .u8 0))
    (hsize : i.size = 1) (hby : i.bytes = 1)
    (v : Value) (n : Nat) (xs : List Value) (hs : a.eval sl = v) (hown : w.ownsRow base e 1 v n xs) (s : ByteArray) (hx : a.eval x = .string s)
    (h63 : n + s.size ≤ maxLen) (hbytes : n + s.size ≤ 140737488355328) (hbase : base ≤ w.heap.size)
    (h : ∀ v' w', w'.ownsRow base e 1 v' (n + s.size) (xs ++ strCells s) → w.grownBy w' v.ownBlock → (v' = .slice none 0 0 ↔ v = .slice none 0 0 ∧ s.size = 0) → K (a.put o.dst v') w') :
    if Region.wanted o (yielded ops a.tmps) = true then Oper.wp P o a w K Q else E := by
  have hw : Region.wanted o (yielded ops a.tmps) = true := by simp [Region.wanted, hgd]
  rw [if_pos hw]
  obtain ⟨v', w', hr, h2, h3, h4⟩ := run_append_own_string (P := P) w base t u o.type e i ht hu hi hz hsize hby v n xs hown s h63 hbytes hbase
  unfold Oper.wp execOp
  simp only [ho, resolve, invoke, builtin, Sem.run_bind, Sem.run_pure, Result.andThen_ok, List.map_toArray, List.map_cons, List.map_nil, hs, hx, hr]
  exact h v' w' h2 h3 h4
theorem own_form {w : World} {base : Nat} {e : TypeId} {size n : Nat} {v : Value} {xs : List Value} (h : w.ownsRow base e size v n xs) : ∃ A cap, v = .slice A n cap ∧ n ≤ cap := by
  rcases h.2 with ⟨hv, h0⟩ | ⟨g, cap, cur, hv, _, _, h1, h2, _⟩
  · subst h0; exact ⟨none, 0, hv, Nat.le_refl _⟩
  · exact ⟨_, cap, hv, h1⟩
def updH (f : Bs → Int) (t : Bs) (x : Int) (u : Bs) : Int := if u = t then x else f u
theorem put_at {D : DataW Unit} {hvf : Bs → Int} (hm : IsMap D) (h : ∀ t, D.atKey (.string t) (.lit (.int .i64 0)) = .lit (.int .i64 (hvf t))) (t : Bs) (x : Int) (u : Bs) :
    (D.put (.string t) (.lit (.int .i64 x))).atKey (.string u) (.lit (.int .i64 0)) = .lit (.int .i64 (updH hvf t x u)) := by
  unfold updH
  by_cases e : u = t
  · subst e; rw [if_pos rfl, atKey_put_same hm (show WideAt.IsKeyLit (.string u) from trivial)]
  · rw [if_neg e, atKey_put_other (by intro h2; injection h2; contradiction), h]
theorem del_at {D : DataW Unit} {hvf : Bs → Int} (h : ∀ t, D.atKey (.string t) (.lit (.int .i64 0)) = .lit (.int .i64 (hvf t))) (t : Bs) (u : Bs) :
    (D.del (.string t)).atKey (.string u) (.lit (.int .i64 0)) = .lit (.int .i64 (updH hvf t 0 u)) := by
  unfold updH
  by_cases e : u = t
  · subst e; rw [if_pos rfl, atKey_del_same]
  · rw [if_neg e, atKey_del_other (by intro h2; injection h2; contradiction), h]
theorem hv_snoc (acc : List Mv) (m : Mv) : hv (acc ++ [m]) = updH (hv acc) m.1 (hv acc m.1 + m.2) := by
  funext u
  rw [hv_append]
  unfold updH
  simp only [hv]
  by_cases e : u = m.1
  · subst e; rw [if_pos rfl, if_pos rfl]; omega
  · rw [if_neg (fun h => e h.symm), if_neg e]; omega
theorem updH_upd (f : Bs → Int) (t : Bs) (x y : Int) : updH (updH f t x) t y = updH f t y := by
  funext u
  unfold updH
  split <;> rfl
theorem info_u8 : (Tryd.prog.info? 5).map (fun i => (i.zero, i.size, i.bytes)) = some (some (.int .u8 0), 1, 1) := by kernel_rfl
def DoPost (w : World) (B db : Nat) (acc : List Mv) (m : Mv) (mv jv : Value) (e : Ending) (w' : World) : Prop :=
  w.Since B w' ∧ ((may acc m ∧ e = .returned .nilIface ∧ ∃ mv' jv', DepMem w' B db (acc ++ [m]) mv' jv') ∨ (¬ may acc m ∧ ∃ k, e = .returned (.iface 56 (.int .i64 k)) ∧ DepMem w' B db acc mv jv))
theorem eql35 (r : Option Nat) (W : World) : (binOp .eql 35 (.map r) (.map none)).run Tryd.prog W = .ok (.bool r.isNone) W := run_eql_map_nil W 35 9 3 r Tryd.underlying35
set_option maxHeartbeats 8000000 in
set_option maxRecDepth 100000 in
theorem Do_any {w : World} {B db : Nat} {acc : List Mv} {mv jv : Value} (h : DepMem w B db acc mv jv) (he : Env w) (hB8 : 8 ≤ B) (hl : acc.length ≤ 500) (t : ByteArray) (v : Int) (ht : t.size ≤ maxLen) (hb : -1000000000 ≤ hv acc t.data.toList ∧ hv acc t.data.toList ≤ 1000000000) (hJ : (J acc).length ≤ 1000000) :
    Calls Tryd.prog 11 #[.pointer (some ⟨db, 0, none⟩), .agg #[.string t, .int .i64 v]] w (DoPost w B db acc (t.data.toList, v) mv jv) := by
  have hmixed : Tryd.prog.follows .mixedOrders = true := layItoa.mixed
  have heql := eql35
  have hmm := @run_makeMap Tryd.prog
  obtain ⟨px, hpx⟩ : ∃ px, px = w.heap.size := ⟨_, rfl⟩
  have hBw : B ≤ w.heap.size := Nat.le_trans h.low (Nat.le_of_lt h.lt)
  have hs1 : w.Since w.heap.size (w.alloc (.cells #[.string t, .int .i64 v] 42)) := (World.Since.refl _ _).alloc (Nat.le_refl _) _
  have y0 : (w.alloc (.cells #[.string t, .int .i64 v] 42)).cell? ⟨px, 0, none⟩ = some (.string t) := by rw [World.cell?_alloc_at _ _ _ _ hpx]; rfl
  have y1 : (w.alloc (.cells #[.string t, .int .i64 v] 42)).cell? ⟨px, 1, none⟩ = some (.int .i64 v) := by rw [World.cell?_alloc_at _ _ _ _ hpx]; rfl
  have hlt : px < (w.alloc (.cells #[.string t, .int .i64 v] 42)).heap.size := by simp [hpx]
  have HS1 := Lib.hid hs1
  have HD1 := Lib.hid (h.since hs1)
  have HE1 := Lib.hid (he.since hs1 he.low)
  have Hpd : Hid (px ≠ db) := Lib.hid (by have := h.lt; omega)
  have HpB : Hid (B ≤ px) := Lib.hid (by omega)
  have HBw := Lib.hid hBw
  have Hjp : Hid (jv.ownBlock ≠ some px) := Lib.hid (fun e => by have := (h.row.lt px e).2; omega)
  have Hmp : Hid (∀ mb, mv = .map (some mb) → mb ≠ px) := Lib.hid (fun mb hmb e => by
    rcases h.map with ⟨e1, _⟩ | ⟨mb', _, _, e1, _, _, ho, _⟩
    · rw [hmb] at e1; cases e1
    · rw [hmb] at e1
      injection e1 with e1
      injection e1 with e1
      have := ho.lt
      omega)
  clear h hs1 he
  go_enter Tryd.func11, Tryd.ntmps11
  go_upto_region 1 with fail
  rw [← hpx]
  clear hpx hBw
  generalize w.alloc (.cells #[.string t, .int .i64 v] 42) = w1 at *
  have C1 := Lib.hid (may_any HD1.out t v ht hb)
  by_cases hm : may acc (t.data.toList, v)
  case neg =>
    obtain ⟨k, hk⟩ : ∃ k, mayB acc (t.data.toList, v) = some k := by
      cases hx : mayB acc (t.data.toList, v) with
      | none => exact absurd (mayB_none.1 hx) hm
      | some k => exact ⟨k, rfl⟩
    rw [hk] at C1
    have Hm := Lib.hid hm
    clear hm hk
    go_wp2_with fail
    refine C1.out.mono ?_
    rintro e w2 ⟨rfl, hs2⟩
    have HS2 := Lib.hid hs2
    clear hs2
    unfold errO
    go_wp2
    go_ret
    exact ⟨since_down (HS1.out.trans (since_down HS2.out HS1.out.size)) HBw.out, .inr ⟨Hm.out, k, rfl, HD1.out.since HS2.out⟩⟩
  rw [mayB_none.2 hm] at C1
  have Hm := Lib.hid hm
  clear hm
  have C2 : Hid (Calls Tryd.prog 18 #[.pointer (some ⟨db, 0, none⟩), .agg #[.string t, .int .i64 v]] w1 fun e w' => e = .returned .nilIface ∧ w1.Since w1.heap.size w') := Lib.hid C1.out
  go_wp2_with fail
  refine C2.out.mono ?_
  rintro e w2 ⟨rfl, hs2⟩
  have HS2 := Lib.hid (HS1.out.trans (since_down hs2 HS1.out.size))
  have HD2 := Lib.hid (HD1.out.since hs2).g
  have HE2 := Lib.hid (HE1.out.since hs2 HE1.out.low)
  rw [← hs2.cell (a := ⟨px, 0, none⟩) hlt] at y0
  rw [← hs2.cell (a := ⟨px, 1, none⟩) hlt] at y1
  have hlt2 : px < w2.heap.size := Nat.lt_of_lt_of_le hlt hs2.size
  clear hs2 C1 C2 HD1 HE1 HS1 hlt
  have z0 := HD2.out.c0
  have zf := HD2.out.fz 0
  obtain ⟨r, hr⟩ : ∃ r, mv = .map r := by
    rcases HD2.out.map with ⟨hmv, _⟩ | ⟨mb, _, _, hmv, _⟩
    · exact ⟨_, hmv⟩
    · exact ⟨_, hmv⟩
  subst hr
  go_upto_if 16 with fail
  go_cut [] (fun wx => ∃ mb, Hid (DepG wx B db acc.length acc.length (J acc) (hv acc) (.map (some mb)) jv) ∧ Hid (w2.Since B wx ∧ w2.heap.size ≤ wx.heap.size) ∧ Hid (wx.cell? ⟨px, 0, none⟩ = some (.string t) ∧ wx.cell? ⟨px, 1, none⟩ = some (.int .i64 v) ∧ mb ≠ px))
  case first =>
    rcases HD2.out.map with ⟨hmv, h0⟩ | ⟨mb, n, D, hmv, _⟩
    · injection hmv with hmv
      subst hmv
      have hm0 : HvMap (w2.alloc (.map #[] 0)) B (.map (some w2.heap.size)) acc.length (hv acc) := .inr ⟨w2.heap.size, 0, .map [], rfl, Nat.le_trans HBw.out HS2.out.size, Nat.zero_le _, World.ownsMap_made w2 _ _ _, isMap_empty, fun t => by rw [h0]; rfl⟩
      have hsa : w2.Since w2.heap.size (w2.alloc (.map #[] 0)) := (World.Since.refl _ _).alloc (Nat.le_refl _) _
      have hda := HD2.out.since hsa
      have z0a := hda.c0
      have zfa := hda.fz 0
      have hfin := hda.setMap hm0 (fun b hb => by
        injection hb with hb
        injection hb with hb
        subst hb
        exact ⟨by have := HD2.out.lt; omega, fun e => by have := (HD2.out.row.lt _ e).2; omega⟩)
      have Hfin := Lib.hid hfin
      have Hb1 : Hid (w2.Since B ((w2.alloc (.map #[] 0)).setCell ⟨db, 0, none⟩ (.map (some w2.heap.size))) ∧ w2.heap.size ≤ ((w2.alloc (.map #[] 0)).setCell ⟨db, 0, none⟩ (.map (some w2.heap.size))).heap.size) := Lib.hid ⟨(since_down hsa (Nat.le_trans HBw.out HS2.out.size)).setCell HD2.out.low _, by simp [World.setCell]⟩
      have Hb2 : Hid (((w2.alloc (.map #[] 0)).setCell ⟨db, 0, none⟩ (.map (some w2.heap.size))).cell? ⟨px, 0, none⟩ = some (.string t) ∧ ((w2.alloc (.map #[] 0)).setCell ⟨db, 0, none⟩ (.map (some w2.heap.size))).cell? ⟨px, 1, none⟩ = some (.int .i64 v)) := Lib.hid (by
        have hne := Hpd.out
        exact ⟨by rw [World.cell?_setCell_other _ _ _ _ (by intro e; injection e; omega), hsa.cell hlt2]; exact y0, by rw [World.cell?_setCell_other _ _ _ _ (by intro e; injection e; omega), hsa.cell hlt2]; exact y1⟩)
      have Hb3 : Hid (w2.heap.size ≠ px) := Lib.hid (by omega)
      clear hm0 h0 hda hfin hsa
      go_wp2
      go_meet
      case rel => exact ⟨_, Hfin, Hb1, Lib.hid ⟨Hb2.out.1, Hb2.out.2, Hb3.out⟩⟩
    · injection hmv with hmv
      subst hmv
      go_wp2
      go_meet
      case rel => exact ⟨_, HD2, Lib.hid ⟨World.Since.refl _ _, Nat.le_refl _⟩, Lib.hid ⟨y0, y1, Hmp.out _ rfl⟩⟩
  case rest =>
    obtain ⟨mb, HD3, HS3, HY3⟩ := hcut
    have HE3 : Hid (Env wc) := Lib.hid (HE2.out.since HS3.out.1 hB8)
    have HSw : Hid (w.Since B wc) := Lib.hid ((since_down HS2.out HBw.out).trans HS3.out.1)
    obtain ⟨y0, y1, hmbp⟩ := HY3.out
    have Hmbp := Lib.hid hmbp
    clear hmbp
    have hlt3 : px < wc.heap.size := Nat.lt_of_lt_of_le hlt2 HS3.out.2
    clear HD2 HE2 z0 zf HY3 HS3 HS2
    have z1 := HD3.out.c1
    have z2 := HD3.out.c2
    obtain ⟨k, hk⟩ : ∃ k, k = acc.length := ⟨_, rfl⟩
    have hp : Hid (may acc (t.data.toList, v)) := Hm
    have hmu := Hm.out.2.1
    have hts : t.size ≤ 12 := by have := Hm.out.1.2.1; rw [Array.length_toList] at this; exact this
    have CL : Hid (∀ W, Env W → Calls Tryd.prog 15 #[.int .i64 (k : Int), .agg #[.string t, .int .i64 v]] W fun e w' => e = .returned (.string (strB (lineB k (t.data.toList, v)))) ∧ W.Since W.heap.size w') := Lib.hid (fun W hW => line_any (by omega) t v (by have := hmu.2.1; simp only at this; omega) (by have := hmu.2.2; simp only at this; omega) (by omega) W hW)
    rw [← hk] at z2 HD3 hl
    obtain ⟨ln, hln⟩ : ∃ ln, ln = strB (lineB k (t.data.toList, v)) := ⟨_, rfl⟩
    rw [← hln] at CL
    have Hk := Lib.hid hk
    have Hln := Lib.hid hln
    have HlnS : ln.size ≤ 1000 := by rw [hln]; show (lineB k (t.data.toList, v)).toArray.size ≤ 1000; rw [List.size_toArray]; have := (line_len (n := k) Hm.out.1 Hm.out.2.1 (by omega)).1; omega
    have hpd := Hpd.out
    have hpd' : db ≠ px := fun e => hpd e.symm
    have HBc : Hid (B ≤ wc.heap.size) := Lib.hid (Nat.le_trans HBw.out (HSw.out.size))
    have hltd := HD3.out.lt
    obtain ⟨i0, hi0, hz0, hz1, hz2⟩ := info_parts info_u8
    have Hi0 := Lib.hid hi0
    have Hz0 := Lib.hid hz0
    have Hz1 := Lib.hid hz1
    have Hz2 := Lib.hid hz2
    clear hk hln hmu hi0 hz0 hz1 hz2
    have zf := HD3.out.fz 1
    have Hne : Hid (jv.ownBlock ≠ some px) := Hjp
    go_upto_region 6 with fail
    go_cut [] (fun wx => ∃ jv', Hid (DepG wx B db k k (J acc ++ lineB k (t.data.toList, v)) (hv acc) (.map (some mb)) jv') ∧ Hid (w.Since B wx) ∧ Hid (wx.cell? ⟨px, 0, none⟩ = some (.string t) ∧ wx.cell? ⟨px, 1, none⟩ = some (.int .i64 v)))
    case first =>
      go_region_law (first | (refine step_append_str _ (by rfl) _ _ _ _ (by rfl) B 5 i0 Tryd.underlying23 Tryd.underlying9 Hi0.out Hz0.out Hz1.out Hz2.out jv (J acc).length (strCells (strB (J acc))) (by rfl) HrL.out ln (by rfl) (by unfold maxLen; omega) (by omega) (Nat.le_trans HBc.out HL.out.size) ?_; intro v8 w8 h1 h2 h3; obtain ⟨A8, c8, e8, _⟩ := own_form h1; subst e8; have hd8 : w8.heap[db]? = wL.heap[db]? := h2.block db (Nat.lt_of_lt_of_le hltd HL.out.size) (fun e => HD3.out.ne e.symm); have hp8 : w8.heap[px]? = wL.heap[px]? := h2.block px (Nat.lt_of_lt_of_le hlt3 HL.out.size) (fun e => Hne.out e.symm); have b0 := (World.cell?_of_block (w := wL) (a := ⟨px, 0, none⟩) hp8).trans a0; have b1 := (World.cell?_of_block (w := wL) (a := ⟨px, 1, none⟩) hp8).trans a1; have b2 := (World.cell?_of_block (w := wL) (a := ⟨db, 2, none⟩) hd8).trans a2; have b3 := (World.cell?_of_block (w := wL) (a := ⟨db, 1, none⟩) hd8).trans a3; have bf := (World.frozen?_of_block (w := wL) (a := ⟨db, 1, none⟩) hd8).trans ((HD3.out.since HL.out).fz 1); have G1 := Lib.hid h1; have G2 := Lib.hid h2; clear h1 h2 h3 hd8 hp8) | (go_simp; go_at_call 15; refine (CL.out _ (HE3.out.since (w' := wc.drew) ⟨rfl, rfl, rfl, Nat.le_refl _, fun _ _ => rfl⟩ (Nat.le_refl 8))).mono ?_; rintro e wL ⟨rfl, hsL⟩; have a0 := (hsL.cell (a := ⟨px, 0, none⟩) hlt3).trans y0; have a1 := (hsL.cell (a := ⟨px, 1, none⟩) hlt3).trans y1; have a2 := (hsL.cell (a := ⟨db, 2, none⟩) hltd).trans z2; have a3 := (hsL.cell (a := ⟨db, 1, none⟩) hltd).trans z1; have HL : Hid (wc.Since wc.heap.size wL) := Lib.hid ⟨hsL.os, hsL.tape, hsL.output, hsL.size, hsL.block⟩; have HrL := Lib.hid (HD3.out.since HL.out).row; clear hsL))
      all_goals
        have HF : Hid (DepG (w8.setCell ⟨db, 1, none⟩ (.slice A8 ((J acc).length + ln.size) c8)) B db k k (J acc ++ lineB k (t.data.toList, v)) (hv acc) (.map (some mb)) (.slice A8 ((J acc).length + ln.size) c8)) := Lib.hid ((HD3.out.since HL.out).setJournal G2.out (by
          have e1 : (J acc ++ lineB k (t.data.toList, v)).length = (J acc).length + ln.size := by rw [Hln.out, List.length_append]; rfl
          have e2 : strCells (strB (J acc ++ lineB k (t.data.toList, v))) = strCells (strB (J acc)) ++ strCells ln := by rw [Hln.out]; simp [strCells, strB]
          rw [e1, e2]; exact G1.out))
        have HF2 : Hid (w.Since B (w8.setCell ⟨db, 1, none⟩ (.slice A8 ((J acc).length + ln.size) c8))) := Lib.hid ((((HSw.out.trans (since_down HL.out HBc.out))).grown G2.out (Nat.le_trans HBc.out HL.out.size) (fun g hg => (HrL.out.lt g hg).1)).setCell HD3.out.low _)
        have HF3 : Hid ((w8.setCell ⟨db, 1, none⟩ (.slice A8 ((J acc).length + ln.size) c8)).cell? ⟨px, 0, none⟩ = some (.string t) ∧ (w8.setCell ⟨db, 1, none⟩ (.slice A8 ((J acc).length + ln.size) c8)).cell? ⟨px, 1, none⟩ = some (.int .i64 v)) := Lib.hid ⟨by rw [World.cell?_setCell_other _ _ _ _ (by intro e; injection e; omega)]; exact b0, by rw [World.cell?_setCell_other _ _ _ _ (by intro e; injection e; omega)]; exact b1⟩
        clear b0 b1 b2 b3 bf a0 a1 a2 a3
        go_wp2
        go_meet
        case rel => exact ⟨_, HF, HF2, HF3⟩
    case rest =>
      obtain ⟨jv', HD4, HS4, HY4⟩ := hcut
      obtain ⟨x0, x1⟩ := HY4.out
      have z3 := HD4.out.c2
      have z3f := HD4.out.fz 2
      have hmb := (HD4.out.nm mb rfl).1
      have hmu := Hm.out.2.1
      obtain ⟨_, hv0, hv1⟩ := hmu
      simp only at hv0 hv1
      obtain ⟨a, ha⟩ : ∃ a, a = hv acc t.data.toList := ⟨_, rfl⟩
      rw [← ha] at hb
      have Ha := Lib.hid ha
      obtain ⟨b0, b1⟩ := hb
      clear HD3 HE3 HSw y0 y1 z1 z2 zf CL hltd hlt3 ha HY4
      go_upto_region 8 with fail
      have HD5 := Lib.hid (HD4.out.setMoves (k + 1))
      have HS5 : Hid (w.Since B (wc.setCell ⟨db, 2, none⟩ (.int .i64 ((k + 1 : Nat) : Int)))) := Lib.hid (HS4.out.setCell HD4.out.low _)
      have ek : ((k + 1 : Nat) : Int) = (k : Int) + 1 := by omega
      rw [ek] at HD5 HS5
      have w0 : (wc.setCell ⟨db, 2, none⟩ (.int .i64 ((k : Int) + 1))).cell? ⟨px, 0, none⟩ = some (.string t) := by rw [World.cell?_setCell_other _ _ _ _ (by intro e; injection e; omega)]; exact x0
      have w1' : (wc.setCell ⟨db, 2, none⟩ (.int .i64 ((k : Int) + 1))).cell? ⟨px, 1, none⟩ = some (.int .i64 v) := by rw [World.cell?_setCell_other _ _ _ _ (by intro e; injection e; omega)]; exact x1
      clear x0 x1 z3 z3f ek HD4 HS4
      generalize wc.setCell ⟨db, 2, none⟩ (.int .i64 ((k : Int) + 1)) = w5 at *
      have z0 := HD5.out.c0
      rcases HD5.out.map with ⟨e1, _⟩ | ⟨mb', n, D, e1, hBm, hnk, ho, him, hat⟩
      · cases e1
      injection e1 with e1
      injection e1 with e1
      subst e1
      have hlk : ∀ W : World, W.heap = w5.heap → (Instr.lookup 35 (.map (some mb)) (.string t) false).run Tryd.prog W = .ok (.int .i64 a) W := fun W hW => by
        have := HvMap.lookup (w := W) (B := B) (mv := .map (some mb)) (k := k) (hvf := hv acc) (.inr ⟨mb, n, D, rfl, hBm, hnk, by
          obtain ⟨es, clock, q1, q2, q3, q4⟩ := ho
          exact ⟨es, clock, by rw [hW]; exact q1, q2, q3, q4⟩, him, hat⟩) ht
        rw [← Ha.out] at this
        exact this
      have hlk1 := hlk w5.drew rfl
      have hlk2 := hlk { w5 with drawn := w5.drawn + 1 } rfl
      have hsum : IntKind.i64.wrap (a + v) = a + v := by simp [IntKind.wrap, IntKind.bits, IntKind.signed]; omega
      refine wp_region_still_tail 10 (by kernel_rfl) (by kernel_rfl) ?_
      simp only [List.take_succ_cons, List.take_zero, List.drop_succ_cons, List.drop_zero]
      repeat still_step
      refine wpStill_nil ?_
      change wpList _ _ _ _ _ w5.drew
      have hown : w5.drew.ownsMap Tryd.prog 9 (plainElem Tryd.prog 3) mb n D := ho
      have Hat := Lib.hid hat
      have Him := Lib.hid him
      have hmbx := Hmbp.out
      clear hlk hlk1 hlk2 hat him ho
      go_wp2_with (at_mapUpdate; refine wpList_mapUpdate_own _ rfl _ _ _ 35 rfl 9 3 K9 Tryd.underlying35 (plainElem Tryd.prog 3) mb n D rfl hown (by unfold maxLen; omega) _ _ (.string t.data.toList) rfl rfl (key9 t ht) (.lit (.int .i64 (a + v))) [] (plainElem_int Tryd.underlying3 (WalkArith.wf_i64 (by omega))) ?_; intro w6 hm6 hg6)
      have hg6' : w5.grownBy w6 (some mb) := ⟨hg6.os, hg6.tape, hg6.output, hg6.size, hg6.block⟩
      have hat6 := put_at Him.out Hat.out t.data.toList (a + v)
      have him6 : IsMap (D.put (.string t.data.toList) (.lit (.int .i64 (a + v)))) := Him.out.put _ _
      have HH6 : Hid (HvMap w6 B (.map (some mb)) (k + 1) (updH (hv acc) t.data.toList (a + v))) := Lib.hid (.inr ⟨mb, n + 1, _, rfl, hBm, by omega, hm6, him6, hat6⟩)
      have HD6 := Lib.hid (HD5.out.mapped rfl hg6' HH6.out)
      have hBb : B ≤ mb := hBm
      have HS6 : Hid (w.Since B w6) := Lib.hid (HS5.out.grown hg6' (by have := HD5.out.lt; have := HD5.out.low; omega) (fun g hg => by injection hg with hg; omega))
      have v0 := hg6'.cell w0 (by intro e; injection e with e; exact hmbx e.symm)
      have v1 := hg6'.cell w1' (by intro e; injection e with e; exact hmbx e.symm)
      have u0 := HD6.out.c0
      have hlk6 : ∀ q, (Instr.lookup 35 (.map (some mb)) (.string t) false).run Tryd.prog (w6.drewN q) = .ok (.int .i64 (a + v)) (w6.drewN q) := fun q => by
        have := (HH6.out.kept (w' := w6.drewN q) (row := none) ⟨rfl, rfl, rfl, Nat.le_refl _, fun _ _ _ => rfl⟩ (by simp)).lookup ht
        rw [show updH (hv acc) t.data.toList (a + v) t.data.toList = a + v from if_pos rfl] at this
        exact this
      have Hfin : Hid (∀ W jv'', DepG W B db (k + 1) (k + 1) (J acc ++ lineB k (t.data.toList, v)) (updH (hv acc) t.data.toList (a + v)) (.map (some mb)) jv'' → DepMem W B db (acc ++ [(t.data.toList, v)]) (.map (some mb)) jv'') := Lib.hid (fun W jv'' h => by
        have h2 : DepG W B db (acc ++ [(t.data.toList, v)]).length (acc ++ [(t.data.toList, v)]).length (J (acc ++ [(t.data.toList, v)])) (hv (acc ++ [(t.data.toList, v)])) (.map (some mb)) jv'' := by
          rw [List.length_append, J_snoc, hv_snoc, ← Hk.out]
          simp only [List.length_cons, List.length_nil]
          rw [← Ha.out]
          exact h
        exact h2.mem)
      clear hat6 him6 hm6 hg6 hg6' w0 w1' z0 hown HD5 HS5 hnk
      by_cases hz : a + v = 0
      · have Hz := Lib.hid hz
        rw [hz] at hlk6
        clear hz hsum
        go_wp2
        go_quiet (fail)
        go_wp2
        have HD7 : Hid (DepG (w6.drewN nq) B db (k + 1) (k + 1) (J acc ++ lineB k (t.data.toList, v)) (updH (hv acc) t.data.toList (a + v)) (.map (some mb)) jv') := Lib.hid (HD6.out.since ⟨rfl, rfl, rfl, Nat.le_refl _, fun _ _ => rfl⟩)
        have HS7 : Hid (w.Since B (w6.drewN nq)) := Lib.hid (since_drewN' HS6.out _)
        have v7 : (w6.drewN nq).cell? ⟨px, 0, none⟩ = some (.string t) := v0
        have u7 : (w6.drewN nq).cell? ⟨db, 0, none⟩ = some (.map (some mb)) := u0
        clear v0 v1 u0 HD6 HS6 HH6 hlk6
        generalize w6.drewN nq = w7 at *
        refine wp_region_still_tail 6 (by kernel_rfl) (by kernel_rfl) ?_
        simp only [List.take_succ_cons, List.take_zero, List.drop_succ_cons, List.drop_zero]
        repeat still_step
        refine wpStill_nil ?_
        change wpList _ _ _ _ _ w7.drew
        rcases HD7.out.map with ⟨e1, _⟩ | ⟨mb', n', D', e1, hBm', hnk', ho', him', hat'⟩
        · cases e1
        injection e1 with e1
        injection e1 with e1
        subst e1
        have hown' : w7.drew.ownsMap Tryd.prog 9 (plainElem Tryd.prog 3) mb n' D' := ho'
        have Hat' := Lib.hid hat'
        have Him' := Lib.hid him'
        clear hat' him' ho'
        go_wp2_with (at_delete; refine wpList_delete_own _ rfl _ _ 35 9 rfl 3 K9 Tryd.underlying35 _ mb n' D' rfl hown' _ _ rfl (key9 t ht) ?_; intro w8 hm8 hg8)
        have hg8' : w7.grownBy w8 (some mb) := ⟨hg8.grown.os, hg8.grown.tape, hg8.grown.output, hg8.grown.size, hg8.grown.block⟩
        have HH8 : Hid (HvMap w8 B (.map (some mb)) (k + 1) (updH (hv acc) t.data.toList (a + v))) := Lib.hid (by
          have h8 := del_at Hat'.out t.data.toList
          rw [updH_upd] at h8
          rw [Hz.out]
          exact .inr ⟨mb, n', _, rfl, hBm', hnk', hm8, Him'.out.del _, h8⟩)
        have HD8 := Lib.hid (HD7.out.mapped rfl hg8' HH8.out)
        have HS8 : Hid (w.Since B w8) := Lib.hid (HS7.out.grown hg8' (by have := HD7.out.lt; have := HD7.out.low; omega) (fun g hg => by injection hg with hg; omega))
        clear hm8 hg8 hg8'
        go_wp2
        go_ret
        exact ⟨HS8.out, .inl ⟨Hm.out, rfl, _, _, Hfin.out _ _ HD8.out⟩⟩
      · have hz2 : (a + v == 0) = false := by rw [beq_eq_false_iff_ne]; exact hz
        clear hz
        go_wp2
        go_quiet (fail)
        go_wp2
        go_ret
        exact ⟨since_drewN' HS6.out _, .inl ⟨Hm.out, rfl, _, _, Hfin.out _ _ (HD6.out.since ⟨rfl, rfl, rfl, Nat.le_refl _, fun _ _ => rfl⟩)⟩⟩
end Go.Proofs.YtgahgdgpncnffaaDoor
