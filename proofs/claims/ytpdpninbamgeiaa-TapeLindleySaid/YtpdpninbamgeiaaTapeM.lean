/- A house of calls, played: what becomes of each. Plain. (From the template XTapeM.) -/
import Init
namespace Go.Proofs.Ytpdpninbamgeiaa.TapeM

structure St where
  c : List Int
  nx : Nat
  wait : List Nat
  free : List Int
  out : Nat → Int × Int
  now : Int
  ph : Nat
def upd (o : Nat → Int × Int) (i : Nat) (v : Int × Int) : Nat → Int × Int := fun k => if k = i then v else o k
section
variable (n A : Nat) (At Lo Pa : Nat → Int)
def events : Nat → List Int
  | 0 => []
  | k + 1 => events k ++ [At k, At k + Pa k]
/-- what is gone through -/
inductive Reach : St → Prop
  | start (c : List Int) : c.Perm (events At Pa n) → Reach ⟨c, 0, [], List.replicate A 0, fun _ => (0, 0), -1, 0⟩
  | pop (c c' nx w f o T now) : Reach ⟨c, nx, w, f, o, T, 0⟩ → c.Perm (now :: c') → (∀ y ∈ c, now ≤ y) → Reach ⟨c', nx, w, f, o, now, 1⟩
  | arrive (c nx w f o now) : Reach ⟨c, nx, w, f, o, now, 1⟩ → nx < n → At nx ≤ now → Reach ⟨c, nx + 1, w ++ [nx], f, o, now, 1⟩
  | arrived (c nx w f o now) : Reach ⟨c, nx, w, f, o, now, 1⟩ → (nx < n → now < At nx) → Reach ⟨c, nx, w, f, o, now, 2⟩
  | take (c c' nx i w f o now) (a : Nat) (t) : Reach ⟨c, nx, i :: w, f, o, now, 2⟩ → f[a]? = some t → t ≤ now → c'.Perm ((now + Lo i) :: c) → Reach ⟨c', nx, w, f.set a (now + Lo i), upd o i ((a : Int), now), now, 2⟩
  | stop (c nx w f o now) : Reach ⟨c, nx, w, f, o, now, 2⟩ → (w = [] ∨ ∀ t ∈ f, now < t) → Reach ⟨c, nx, w, f, o, now, 3⟩
  | clean (c nx w f o now) : Reach ⟨c, nx, w, f, o, now, 3⟩ → Reach ⟨c, nx, w.filter (fun i => decide (now < At i + Pa i)), f, fun i => if i ∈ w ∧ At i + Pa i ≤ now then (-1, now) else o i, now, 0⟩
structure Calls : Prop where
  few : n ≤ 60
  at_ : ∀ i, i < n → 0 ≤ At i ∧ At i ≤ 1000000000
  lo : ∀ i, i < n → 0 ≤ Lo i ∧ Lo i ≤ 1000000000
  pa : ∀ i, i < n → 0 ≤ Pa i ∧ Pa i ≤ 1000000000
  order : ∀ i, i + 1 < n → At i ≤ At (i + 1)
def Done (s : St) (i : Nat) : Prop :=
  ((s.out i).1 = -1 ∧ (s.out i).2 = At i + Pa i) ∨ ∃ (a : Nat) (t : Int), (s.out i).1 = a ∧ a < A ∧ At i ≤ (s.out i).2 ∧ (s.out i).2 ≤ At i + Pa i ∧ (s.out i).2 ≤ s.now ∧ s.free[a]? = some t ∧ (s.out i).2 + Lo i ≤ t
structure Inv (s : St) : Prop where
  nxn : s.nx ≤ n
  wlt : ∀ i ∈ s.wait, i < s.nx
  wsort : s.wait.Pairwise (· < ·)
  arr : ∀ i ∈ s.wait, At i ≤ s.now
  fut : s.ph ≠ 1 → ∀ i, s.nx ≤ i → i < n → s.now < At i
  ev1 : ∀ i, s.nx ≤ i → i < n → s.now ≤ At i ∧ (s.now < At i → At i ∈ s.c)
  ev2 : ∀ i, i ∈ s.wait ∨ (s.nx ≤ i ∧ i < n) → s.now ≤ At i + Pa i ∧ (s.now < At i + Pa i → At i + Pa i ∈ s.c)
  strict : s.ph = 0 → ∀ i ∈ s.wait, s.now < At i + Pa i
  mono : ∀ y ∈ s.c, s.now ≤ y
  done : ∀ i, i < s.nx → i ∉ s.wait → Done A At Lo Pa s i
  ord : ∀ k, k < s.nx → k ∉ s.wait → 0 ≤ (s.out k).1 → ∀ i ∈ s.wait, k < i
  ord2 : ∀ k i, k < i → i < s.nx → k ∉ s.wait → i ∉ s.wait → 0 ≤ (s.out k).1 → 0 ≤ (s.out i).1 → (s.out k).2 ≤ (s.out i).2 ∧ ((s.out k).1 = (s.out i).1 → (s.out k).2 + Lo k ≤ (s.out i).2)
  flen : s.free.length = A
  bnd : (∀ y, y ∈ s.c ∨ y ∈ s.free ∨ y = s.now → -1 ≤ y ∧ y ≤ 2000000000 + 1000000000 * ((s.nx : Int) - s.wait.length))
  pos : (∀ y, y ∈ s.c ∨ y ∈ s.free → 0 ≤ y) ∧ (s.ph ≠ 0 → 0 ≤ s.now)
  len : s.c.length + (n - s.nx) + s.wait.length ≤ 3 * n
end
section
variable {n A : Nat} {At Lo Pa : Nat → Int}
theorem events_mem {y : Int} : ∀ {k : Nat}, y ∈ events At Pa k → ∃ i, i < k ∧ (y = At i ∨ y = At i + Pa i)
  | 0, h => by simp [events] at h
  | k + 1, h => by
    unfold events at h
    rcases List.mem_append.1 h with h | h
    · obtain ⟨i, hi, hy⟩ := events_mem h
      exact ⟨i, by omega, hy⟩
    · simp at h
      exact ⟨k, by omega, h⟩
theorem mem_events {i : Nat} : ∀ {k : Nat}, i < k → At i ∈ events At Pa k ∧ At i + Pa i ∈ events At Pa k
  | 0, h => by omega
  | k + 1, h => by
    unfold events
    by_cases e : i = k
    · subst e; simp
    · have := mem_events (k := k) (i := i) (by omega)
      exact ⟨List.mem_append.2 (.inl this.1), List.mem_append.2 (.inl this.2)⟩
theorem events_len : ∀ k, (events At Pa k).length = 2 * k
  | 0 => rfl
  | k + 1 => by unfold events; rw [List.length_append, events_len k]; simp; omega
theorem at_mono (h : Calls n At Lo Pa) {i k : Nat} (hik : i ≤ k) (hk : k < n) : At i ≤ At k := by
  induction k with
  | zero => obtain rfl : i = 0 := by omega
            exact Int.le_refl _
  | succ k ih =>
    by_cases e : i = k + 1
    · subst e; exact Int.le_refl _
    · have := ih (by omega) (by omega)
      have := h.order k hk
      omega
theorem filter_len (p : Nat → Bool) (w : List Nat) : (w.filter p).length ≤ w.length := List.length_filter_le _ _
theorem reach_inv (h : Calls n At Lo Pa) {s : St} (hr : Reach n A At Lo Pa s) : Inv n A At Lo Pa s := by
  induction hr with
  | start c hc =>
    refine ⟨by simp, by simp, List.Pairwise.nil, by simp, fun _ i _ hi => ?_, fun i _ hi => ?_, fun i hi => ?_, by simp, fun y hy => ?_, by simp, by simp, by simp, by simp, ?_, ?_, ?_⟩
    · have := (h.at_ i hi).1; show (-1 : Int) < _; omega
    · have := (h.at_ i hi).1
      exact ⟨by show (-1 : Int) ≤ _; omega, fun _ => hc.mem_iff.2 (mem_events hi).1⟩
    · rcases hi with hi | ⟨_, hi⟩
      · simp at hi
      · have := (h.at_ i hi).1
        have := (h.pa i hi).1
        exact ⟨by show (-1 : Int) ≤ _; omega, fun _ => hc.mem_iff.2 (mem_events hi).2⟩
    · obtain ⟨i, hi, hy⟩ := events_mem (hc.mem_iff.1 hy)
      have := (h.at_ i hi).1
      have := (h.pa i hi).1
      show (-1 : Int) ≤ y
      rcases hy with rfl | rfl <;> omega
    · intro y hy
      simp only [List.length_nil, Int.natCast_zero, Int.sub_zero, Int.mul_zero]
      rcases hy with hy | hy | hy
      · obtain ⟨i, hi, hy⟩ := events_mem (hc.mem_iff.1 hy)
        have := h.at_ i hi
        have := h.pa i hi
        rcases hy with rfl | rfl <;> omega
      · have := List.eq_of_mem_replicate hy
        omega
      · simp only at hy; omega
    · refine ⟨fun y hy => ?_, by simp⟩
      rcases hy with hy | hy
      · obtain ⟨i, hi, hy⟩ := events_mem (hc.mem_iff.1 hy)
        have := h.at_ i hi
        have := h.pa i hi
        rcases hy with rfl | rfl <;> omega
      · have := List.eq_of_mem_replicate hy
        omega
    · show c.length + (n - 0) + 0 ≤ 3 * n
      rw [hc.length_eq, events_len]; omega
  | pop c c' nx w f o T now _ hc hmin ih =>
    have hnow : now ∈ c := hc.mem_iff.2 (List.mem_cons_self ..)
    have hsub : ∀ y ∈ c', y ∈ c := fun y hy => hc.mem_iff.2 (List.mem_cons_of_mem _ hy)
    have hin : ∀ y ∈ c, now < y → y ∈ c' := fun y hy hlt => by
      rcases List.mem_cons.1 (hc.mem_iff.1 hy) with e | e
      · omega
      · exact e
    have hT : T ≤ now := ih.mono now hnow
    refine ⟨ih.nxn, ih.wlt, ih.wsort, fun i hi => by have : At i ≤ T := ih.arr i hi; show At i ≤ now; omega, fun hp => absurd rfl hp, fun i hi hin' => ?_, fun i hi => ?_, fun hp => by simp at hp, fun y hy => hmin y (hsub y hy), fun i hi hw => ?_, ih.ord, ih.ord2, ih.flen, ?_, ?_, ?_⟩
    · have h1 := ih.fut (by simp) i hi hin'
      have h2 := (ih.ev1 i hi hin').2 h1
      exact ⟨hmin _ h2, fun hlt => hin _ h2 hlt⟩
    · have h1 : T < At i + Pa i := by
        rcases hi with hi | ⟨hi, hin'⟩
        · exact ih.strict rfl i hi
        · have : T < At i := ih.fut (by simp) i hi hin'
          have := (h.pa i hin').1
          omega
      have h2 := (ih.ev2 i hi).2 h1
      exact ⟨hmin _ h2, fun hlt => hin _ h2 hlt⟩
    · rcases ih.done i hi hw with h1 | ⟨a, t, h1, h2, h3, h4, h5, h6⟩
      · exact .inl h1
      · exact .inr ⟨a, t, h1, h2, h3, h4, by show (o i).2 ≤ now; have : (o i).2 ≤ T := h5; omega, h6⟩
    · intro y hy
      rcases hy with hy | hy | hy
      · exact ih.bnd y (.inl (hsub y hy))
      · exact ih.bnd y (.inr (.inl hy))
      · simp only at hy; subst hy; exact ih.bnd y (.inl hnow)
    · refine ⟨fun y hy => ?_, fun _ => ih.pos.1 _ (.inl hnow)⟩
      rcases hy with hy | hy
      · exact ih.pos.1 y (.inl (hsub y hy))
      · exact ih.pos.1 y (.inr hy)
    · have h1 := ih.len
      have h2 := hc.length_eq
      simp only [List.length_cons] at h1 h2 ⊢
      omega
  | arrive c nx w f o now _ hn hat ih =>
    have hmem : ∀ i, i ∈ w ++ [nx] → i ∈ w ∨ i = nx := fun i hi => by simpa using hi
    have hnot : ∀ i, i ∉ w ++ [nx] → i ∉ w ∧ i ≠ nx := fun i hi => by simpa using hi
    refine ⟨hn, fun i hi => ?_, ?_, fun i hi => ?_, fun hp => absurd rfl hp, fun i hi hin' => ih.ev1 i (by simp at hi ⊢; omega) hin', fun i hi => ?_, fun hp => by simp at hp, ih.mono, fun i hi hw => ?_, fun k hk hw hp i hi => ?_, fun k i hki hi hkw hiw => ?_, ih.flen, ?_, ih.pos, ?_⟩
    · show i < nx + 1
      rcases hmem i hi with hi | hi
      · have : i < nx := ih.wlt i hi; omega
      · omega
    · show (w ++ [nx]).Pairwise (· < ·)
      rw [List.pairwise_append]
      exact ⟨ih.wsort, List.pairwise_singleton .., fun i hi k hk => by rw [List.mem_singleton.1 hk]; exact ih.wlt i hi⟩
    · rcases hmem i hi with hi | hi
      · exact ih.arr i hi
      · subst hi; exact hat
    · refine ih.ev2 i ?_
      rcases hi with hi | ⟨hi, hin'⟩
      · rcases hmem i hi with hi | hi
        · exact .inl hi
        · subst hi; exact .inr ⟨Nat.le_refl _, hn⟩
      · exact .inr ⟨by simp at hi ⊢; omega, hin'⟩
    · obtain ⟨h1, h2⟩ := hnot i hw
      exact ih.done i (by simp at hi ⊢; omega) h1
    · obtain ⟨h1, h2⟩ := hnot k hw
      have hk' : k < nx := by simp at hk; omega
      rcases hmem i hi with hi | hi
      · exact ih.ord k hk' h1 hp i hi
      · omega
    · obtain ⟨h1, h2⟩ := hnot k hkw
      obtain ⟨h3, h4⟩ := hnot i hiw
      exact ih.ord2 k i hki (by simp at hi ⊢; omega) h1 h3
    · intro y hy
      have := ih.bnd y hy
      simp only [List.length_append, List.length_cons, List.length_nil] at this ⊢
      omega
    · have := ih.len
      simp only [List.length_append, List.length_cons, List.length_nil] at this ⊢
      omega
  | arrived c nx w f o now _ hn ih =>
    refine ⟨ih.nxn, ih.wlt, ih.wsort, ih.arr, fun _ i hi hin' => ?_, ih.ev1, ih.ev2, fun hp => by simp at hp, ih.mono, ih.done, ih.ord, ih.ord2, ih.flen, ih.bnd, ⟨ih.pos.1, fun _ => ih.pos.2 (by simp)⟩, ih.len⟩
    have h1 := hn (by have : nx ≤ i := hi; omega)
    have h2 := at_mono h (i := nx) (k := i) hi hin'
    show now < At i
    omega
  | take c c' nx i w f o now a t _ ha ht hc ih =>
    have hiw : i ∉ w := fun hi => by
      have := (List.pairwise_cons.1 ih.wsort).1 i hi
      omega
    have hinx : i < nx := ih.wlt i (List.mem_cons_self ..)
    have hin : i < n := Nat.lt_of_lt_of_le hinx ih.nxn
    have hlo := h.lo i hin
    have hnot : ∀ k, k ∉ w → k = i ∨ k ∉ i :: w := fun k hk => by
      by_cases e : k = i
      · exact .inl e
      · exact .inr (fun hm => by rcases List.mem_cons.1 hm with e2 | e2 <;> contradiction)
    have hne : ∀ k, k ∉ i :: w → k ≠ i := fun k hk e => hk (by subst e; exact List.mem_cons_self ..)
    have hup : ∀ k, k ≠ i → upd o i ((a : Int), now) k = o k := fun k hk => by simp [upd, hk]
    have hui : upd o i ((a : Int), now) i = ((a : Int), now) := by simp [upd]
    have halt : a < f.length := (List.getElem?_eq_some_iff.1 ha).1
    have hfl : f.length = A := ih.flen
    have hold : ∀ k, k < nx → k ∉ i :: w → 0 ≤ (o k).1 → (o k).2 ≤ now ∧ ((o k).1 = a → (o k).2 + Lo k ≤ now) := fun k hk hw hp => by
      rcases ih.done k hk hw with ⟨h1, _⟩ | ⟨a', t', h1, h2, h3, h4, h5, h6, h7⟩
      · simp only at h1; omega
      · refine ⟨h5, fun e => ?_⟩
        simp only at h1 h6 h7
        have : a' = a := by omega
        subst this
        rw [ha] at h6
        injection h6 with h6
        omega
    refine ⟨ih.nxn, fun k hk => ih.wlt k (List.mem_cons_of_mem _ hk), (List.pairwise_cons.1 ih.wsort).2, fun k hk => ih.arr k (List.mem_cons_of_mem _ hk), ih.fut, fun k hk hkn => ?_, fun k hk => ?_, fun hp => by simp at hp, fun y hy => ?_, fun k hk hw => ?_, fun k hk hw hp j hj => ?_, fun k j hkj hj hkw hjw hkp hjp => ?_, by simpa using hfl, ?_, ?_, ?_⟩
    · have := ih.ev1 k hk hkn
      exact ⟨this.1, fun hlt => hc.mem_iff.2 (List.mem_cons_of_mem _ (this.2 hlt))⟩
    · have := ih.ev2 k (by rcases hk with hk | hk; exact .inl (List.mem_cons_of_mem _ hk); exact .inr hk)
      exact ⟨this.1, fun hlt => hc.mem_iff.2 (List.mem_cons_of_mem _ (this.2 hlt))⟩
    · rcases List.mem_cons.1 (hc.mem_iff.1 hy) with e | e
      · show now ≤ y; omega
      · exact ih.mono y e
    · rcases hnot k hw with rfl | hw'
      · right
        refine ⟨a, now + Lo k, by show (upd o k _ k).1 = _; rw [hui], by omega, ?_, ?_, ?_, ?_, ?_⟩
        · show At k ≤ (upd o k _ k).2; rw [hui]; exact ih.arr k (List.mem_cons_self ..)
        · show (upd o k _ k).2 ≤ _; rw [hui]; exact (ih.ev2 k (.inl (List.mem_cons_self ..))).1
        · show (upd o k _ k).2 ≤ now; rw [hui]; exact Int.le_refl _
        · show (f.set a (now + Lo k))[a]? = _; rw [List.getElem?_set_self halt]
        · show (upd o k _ k).2 + Lo k ≤ _; rw [hui]; exact Int.le_refl _
      · have hki := hne k hw'
        rcases ih.done k hk hw' with h1 | ⟨a', t', h1, h2, h3, h4, h5, h6, h7⟩
        · left
          show (upd o i _ k).1 = -1 ∧ (upd o i _ k).2 = _
          rw [hup k hki]; exact h1
        · right
          by_cases e : a' = a
          · subst e
            simp only at h6
            rw [ha] at h6
            injection h6 with h6
            refine ⟨a', now + Lo i, ?_, h2, ?_, ?_, ?_, by show (f.set a' (now + Lo i))[a']? = _; rw [List.getElem?_set_self halt], ?_⟩
            · show (upd o i _ k).1 = _; rw [hup k hki]; exact h1
            · show _ ≤ (upd o i _ k).2; rw [hup k hki]; exact h3
            · show (upd o i _ k).2 ≤ _; rw [hup k hki]; exact h4
            · show (upd o i _ k).2 ≤ _; rw [hup k hki]; exact h5
            · show (upd o i _ k).2 + _ ≤ _; rw [hup k hki]; simp only at h7; omega
          · refine ⟨a', t', ?_, h2, ?_, ?_, ?_, by show (f.set a (now + Lo i))[a']? = _; rw [List.getElem?_set_ne (fun e2 => e e2.symm)]; exact h6, ?_⟩
            · show (upd o i _ k).1 = _; rw [hup k hki]; exact h1
            · show _ ≤ (upd o i _ k).2; rw [hup k hki]; exact h3
            · show (upd o i _ k).2 ≤ _; rw [hup k hki]; exact h4
            · show (upd o i _ k).2 ≤ _; rw [hup k hki]; exact h5
            · show (upd o i _ k).2 + _ ≤ _; rw [hup k hki]; exact h7
    · rcases hnot k hw with rfl | hw'
      · exact (List.pairwise_cons.1 ih.wsort).1 j hj
      · refine ih.ord k hk hw' ?_ j (List.mem_cons_of_mem _ hj)
        have hki := hne k hw'
        have hp' : 0 ≤ (upd o i ((a : Int), now) k).1 := hp
        rw [hup k hki] at hp'
        exact hp'
    · show (upd o i _ k).2 ≤ (upd o i _ j).2 ∧ ((upd o i _ k).1 = (upd o i _ j).1 → (upd o i _ k).2 + Lo k ≤ (upd o i _ j).2)
      have hkp' : 0 ≤ (upd o i ((a : Int), now) k).1 := hkp
      have hjp' : 0 ≤ (upd o i ((a : Int), now) j).1 := hjp
      have hj' : j < nx := hj
      rcases hnot k hkw with rfl | hkw'
      · -- the one taken now is the former: then the latter was taken already, ahead of it
        rcases hnot j hjw with rfl | hjw'
        · omega
        · exfalso
          have hji := hne j hjw'
          rw [hup j hji] at hjp'
          have := ih.ord j hj' hjw' hjp' k (List.mem_cons_self ..)
          omega
      · have hki := hne k hkw'
        rw [hup k hki] at hkp' ⊢
        rcases hnot j hjw with rfl | hjw'
        · rw [hui]
          have := hold k (by omega) hkw' hkp'
          exact ⟨this.1, fun e => this.2 e⟩
        · have hji := hne j hjw'
          rw [hup j hji] at hjp' ⊢
          exact ih.ord2 k j hkj hj' hkw' hjw' hkp' hjp'
    · intro y hy
      have hl : ∀ z, -1 ≤ z ∧ z ≤ 2000000000 + 1000000000 * ((nx : Int) - ((i :: w).length : Nat)) → -1 ≤ z ∧ z ≤ 2000000000 + 1000000000 * ((nx : Int) - (w.length : Nat)) := fun z hz => by
        simp only [List.length_cons, Int.natCast_add] at hz
        omega
      have hnow := ih.bnd now (.inr (.inr rfl))
      have hnow0 := ih.pos.2 (by simp)
      have hnew : -1 ≤ now + Lo i ∧ now + Lo i ≤ 2000000000 + 1000000000 * ((nx : Int) - (w.length : Nat)) := by
        simp only [List.length_cons, Int.natCast_add] at hnow hnow0
        omega
      rcases hy with hy | hy | hy
      · rcases List.mem_cons.1 (hc.mem_iff.1 hy) with e | e
        · rw [e]; exact hnew
        · exact hl y (ih.bnd y (.inl e))
      · rcases List.mem_or_eq_of_mem_set hy with e | e
        · exact hl y (ih.bnd y (.inr (.inl e)))
        · rw [e]; exact hnew
      · simp only at hy; rw [hy]; exact hl now hnow
    · have hnow0 := ih.pos.2 (by simp)
      simp only at hnow0
      refine ⟨fun y hy => ?_, fun _ => hnow0⟩
      rcases hy with hy | hy
      · rcases List.mem_cons.1 (hc.mem_iff.1 hy) with e | e
        · rw [e]; omega
        · exact ih.pos.1 y (.inl e)
      · rcases List.mem_or_eq_of_mem_set hy with e | e
        · exact ih.pos.1 y (.inr e)
        · rw [e]; omega
    · have h1 := ih.len
      have h2 := hc.length_eq
      simp only [List.length_cons] at h1 h2 ⊢
      omega
  | stop c nx w f o now _ _ ih =>
    exact ⟨ih.nxn, ih.wlt, ih.wsort, ih.arr, fun _ => ih.fut (by simp), ih.ev1, ih.ev2, fun hp => by simp at hp, ih.mono, ih.done, ih.ord, ih.ord2, ih.flen, ih.bnd, ⟨ih.pos.1, fun _ => ih.pos.2 (by simp)⟩, ih.len⟩
  | clean c nx w f o now _ ih =>
    have hmem : ∀ k, k ∈ w.filter (fun i => decide (now < At i + Pa i)) ↔ k ∈ w ∧ now < At k + Pa k := fun k => by simp [List.mem_filter]
    have hold : ∀ k, k ∉ w → (if k ∈ w ∧ At k + Pa k ≤ now then ((-1 : Int), now) else o k) = o k := fun k hk => by simp [hk]
    have hnew : ∀ k, k ∈ w → k ∉ w.filter (fun i => decide (now < At i + Pa i)) → (if k ∈ w ∧ At k + Pa k ≤ now then ((-1 : Int), now) else o k) = (-1, now) ∧ At k + Pa k = now := fun k hk hn => by
      have h1 : ¬ now < At k + Pa k := fun h2 => hn ((hmem k).2 ⟨hk, h2⟩)
      have h3 := (ih.ev2 k (.inl hk)).1
      simp only at h3
      exact ⟨if_pos ⟨hk, by omega⟩, by omega⟩
    refine ⟨ih.nxn, fun k hk => ih.wlt k ((hmem k).1 hk).1, ih.wsort.filter _, fun k hk => ih.arr k ((hmem k).1 hk).1, fun _ => ih.fut (by simp), ih.ev1, fun k hk => ih.ev2 k (by rcases hk with hk | hk; exact .inl ((hmem k).1 hk).1; exact .inr hk), fun _ k hk => ((hmem k).1 hk).2, ih.mono, fun k hk hw => ?_, fun k hk hw hp i hi => ?_, fun k i hki hi hkw hiw hkp hip => ?_, ih.flen, ?_, ⟨ih.pos.1, fun hp => absurd rfl hp⟩, ?_⟩
    · by_cases e : k ∈ w
      · left
        obtain ⟨h1, h2⟩ := hnew k e hw
        show (ite _ _ _ : Int × Int).1 = _ ∧ (ite _ _ _ : Int × Int).2 = _
        rw [h1]
        exact ⟨rfl, h2.symm⟩
      · have := ih.done k hk e
        unfold Done at this ⊢
        simp only at this ⊢
        rw [hold k e]
        exact this
    · by_cases e : k ∈ w
      · obtain ⟨h1, h2⟩ := hnew k e hw
        have hp' : 0 ≤ (if k ∈ w ∧ At k + Pa k ≤ now then ((-1 : Int), now) else o k).1 := hp
        rw [h1] at hp'
        simp at hp'
      · have hp' : 0 ≤ (if k ∈ w ∧ At k + Pa k ≤ now then ((-1 : Int), now) else o k).1 := hp
        rw [hold k e] at hp'
        exact ih.ord k hk e hp' i ((hmem i).1 hi).1
    · show ((if k ∈ w ∧ At k + Pa k ≤ now then ((-1 : Int), now) else o k)).2 ≤ ((if i ∈ w ∧ At i + Pa i ≤ now then ((-1 : Int), now) else o i)).2 ∧ ((if k ∈ w ∧ At k + Pa k ≤ now then ((-1 : Int), now) else o k).1 = (if i ∈ w ∧ At i + Pa i ≤ now then ((-1 : Int), now) else o i).1 → (if k ∈ w ∧ At k + Pa k ≤ now then ((-1 : Int), now) else o k).2 + Lo k ≤ (if i ∈ w ∧ At i + Pa i ≤ now then ((-1 : Int), now) else o i).2)
      have hkp' : 0 ≤ (if k ∈ w ∧ At k + Pa k ≤ now then ((-1 : Int), now) else o k).1 := hkp
      have hip' : 0 ≤ (if i ∈ w ∧ At i + Pa i ≤ now then ((-1 : Int), now) else o i).1 := hip
      by_cases e : k ∈ w
      · rw [(hnew k e hkw).1] at hkp'; simp at hkp'
      by_cases e2 : i ∈ w
      · rw [(hnew i e2 hiw).1] at hip'; simp at hip'
      rw [hold k e] at hkp' ⊢
      rw [hold i e2] at hip' ⊢
      exact ih.ord2 k i hki hi e e2 hkp' hip'
    · intro y hy
      have h1 := ih.bnd y hy
      have h2 := filter_len (fun i => decide (now < At i + Pa i)) w
      simp only at h1 ⊢
      omega
    · have h1 := ih.len
      have h2 := filter_len (fun i => decide (now < At i + Pa i)) w
      simp only at h1 ⊢
      omega
/-- at the end all is done -/
theorem reach_end (h : Calls n At Lo Pa) {nx : Nat} {w : List Nat} {f : List Int} {o : Nat → Int × Int} {T : Int} (hr : Reach n A At Lo Pa ⟨[], nx, w, f, o, T, 0⟩) : nx = n ∧ w = [] := by
  have hi := reach_inv h hr
  have h1 : nx = n := by
    have := hi.nxn
    simp only at this
    by_cases e : nx < n
    · have h2 := hi.fut (by simp) nx (Nat.le_refl _) e
      have h3 := (hi.ev1 nx (Nat.le_refl _) e).2 h2
      simp at h3
    · omega
  refine ⟨h1, ?_⟩
  cases w with
  | nil => rfl
  | cons i w =>
    have h2 := hi.strict rfl i (List.mem_cons_self ..)
    have h3 := (hi.ev2 i (.inl (List.mem_cons_self ..))).2 h2
    simp at h3
/-- nobody who came later is taken sooner, and so on -/
structure Fair (n A : Nat) (At Lo Pa : Nat → Int) (o : Nat → Int × Int) : Prop where
  each : ∀ i, i < n → At i ≤ (o i).2 ∧ (o i).2 ≤ At i + Pa i ∧ ((o i).1 < 0 → (o i).2 = At i + Pa i) ∧ (o i).1 < A
  two : ∀ k i, k < i → i < n → 0 ≤ (o k).1 → (0 ≤ (o i).1 → (o k).2 ≤ (o i).2) ∧ ((o k).1 = (o i).1 → (o k).2 + Lo k ≤ (o i).2)
theorem reach_fair (h : Calls n At Lo Pa) {nx : Nat} {w : List Nat} {f : List Int} {o : Nat → Int × Int} {T : Int} (hr : Reach n A At Lo Pa ⟨[], nx, w, f, o, T, 0⟩) : Fair n A At Lo Pa o := by
  obtain ⟨rfl, rfl⟩ := reach_end h hr
  have hi := reach_inv h hr
  refine ⟨fun i hin => ?_, fun k i hki hin hp => ⟨fun hp2 => (hi.ord2 k i hki hin (by simp) (by simp) hp hp2).1, fun e => (hi.ord2 k i hki hin (by simp) (by simp) hp (by simp only at e ⊢; omega)).2 e⟩⟩
  have hpa := h.pa i hin
  rcases hi.done i hin (by simp) with ⟨h1, h2⟩ | ⟨a, t, h1, h2, h3, h4, h5, h6⟩
  · simp only at h1 h2
    exact ⟨by omega, by omega, fun _ => h2, by omega⟩
  · simp only at h1 h3 h4
    exact ⟨h3, h4, fun e => by omega, by omega⟩

/-- one agent, and more patience than anybody needs -/
structure LInv (n : Nat) (At Lo : Nat → Int) (S : Nat → Int) (s : St) : Prop where
  go : ∃ (d : Nat) (F : Int), d ≤ s.nx ∧ s.wait = List.range' d (s.nx - d) ∧ s.free = [F] ∧ (∀ i, i < d → s.out i = (0, S i)) ∧ (d < n → S d = max (At d) F) ∧ (d = 0 → F = 0) ∧ (∀ i, i + 1 = d → F = S i + Lo i) ∧
    (0 < d → s.now < F → F ∈ s.c) ∧ (d < s.nx → s.ph = 0 ∨ s.ph = 3 → s.now < F) ∧ (d < s.nx → s.ph ≠ 0 → s.now ≤ max (At d) F)
theorem S_mono {S : Nat → Int} (h : Calls n At Lo Pa) (hS : ∀ i, i + 1 < n → S (i + 1) = max (At (i + 1)) (S i + Lo i)) {i k : Nat} (hik : i ≤ k) (hk : k < n) : S i ≤ S k := by
  induction k with
  | zero => obtain rfl : i = 0 := by omega
            exact Int.le_refl _
  | succ k ih =>
    by_cases e : i = k + 1
    · subst e; exact Int.le_refl _
    · have h1 := ih (by omega) (by omega)
      have h2 := (h.lo k (by omega)).1
      rw [hS k hk]
      omega
theorem reach_lind (h : Calls n At Lo Pa) {S : Nat → Int} (hS0 : 0 < n → S 0 = At 0) (hS : ∀ i, i + 1 < n → S (i + 1) = max (At (i + 1)) (S i + Lo i)) (hpat : ∀ i, i < n → S i ≤ At i + Pa i)
    {s : St} (hr : Reach n 1 At Lo Pa s) : LInv n At Lo S s := by
  induction hr with
  | start c hc =>
    exact ⟨0, 0, Nat.le_refl _, rfl, rfl, by simp, fun h0 => by rw [hS0 h0]; have := (h.at_ 0 h0).1; omega, fun _ => rfl, by simp, by simp, by simp, by simp⟩
  | pop c c' nx w f o T now hr hc hmin ih =>
    have hi := reach_inv h hr
    obtain ⟨d, F, h1, h2, h3, h4, h5, h6, h7, h8, h9, h10⟩ := ih
    have hnow : now ∈ c := hc.mem_iff.2 (List.mem_cons_self ..)
    have hT : T ≤ now := hi.mono now hnow
    have hn0 : 0 ≤ now := hi.pos.1 now (.inl hnow)
    refine ⟨d, F, h1, h2, h3, h4, h5, h6, h7, fun hd hlt => ?_, fun _ hp => by simp at hp, fun hd _ => ?_⟩
    · have h11 : F ∈ c := h8 hd (by simp only at hlt ⊢; omega)
      rcases List.mem_cons.1 (hc.mem_iff.1 h11) with e | e
      · simp only at hlt; omega
      · exact e
    · have h11 := h9 hd (.inl rfl)
      simp only at h11 ⊢
      by_cases e : d = 0
      · have := h6 e
        have hT0 : T < 0 := by omega
        -- the first one waits since -1: none
        exfalso
        have h12 : d ∈ w := by
          have : w = List.range' d (nx - d) := h2
          rw [this, List.mem_range'_1]
          have : d < nx := hd
          omega
        have h13 : At d ≤ T := hi.arr d h12
        have h14 : d < n := Nat.lt_of_lt_of_le hd hi.nxn
        have := (h.at_ d h14).1
        omega
      · have h12 : F ∈ c := h8 (by omega) h11
        have := hmin F h12
        omega
  | arrive c nx w f o now hr hn hat ih =>
    have hi := reach_inv h hr
    obtain ⟨d, F, h1, h2, h3, h4, h5, h6, h7, h8, h9, h10⟩ := ih
    simp only at h1 h2
    refine ⟨d, F, by show d ≤ nx + 1; omega, ?_, h3, h4, h5, h6, h7, h8, fun _ hp => by simp at hp, fun hd _ => ?_⟩
    · show w ++ [nx] = List.range' d (nx + 1 - d)
      rw [h2, show nx + 1 - d = nx - d + 1 by omega, List.range'_concat]
      congr 2
      omega
    · by_cases e : d < nx
      · exact h10 e (by simp)
      · have : d = nx := by simp only at hd; omega
        subst this
        have := (hi.ev1 d (Nat.le_refl _) hn).1
        simp only at this ⊢
        omega
  | arrived c nx w f o now hr hn ih =>
    obtain ⟨d, F, h1, h2, h3, h4, h5, h6, h7, h8, h9, h10⟩ := ih
    exact ⟨d, F, h1, h2, h3, h4, h5, h6, h7, h8, fun _ hp => by simp at hp, fun hd _ => h10 hd (by simp)⟩
  | take c c' nx i w f o now a t hr ha ht hc ih =>
    have hi := reach_inv h hr
    obtain ⟨d, F, h1, h2, h3, h4, h5, h6, h7, h8, h9, h10⟩ := ih
    simp only at h1 h2 h3 h4 h10
    have hd : d < nx := by
      apply Classical.byContradiction
      intro hno
      rw [show nx - d = 0 by omega] at h2
      simp at h2
    rw [show nx - d = nx - (d + 1) + 1 by omega, List.range'_succ] at h2
    injection h2 with e1 e2
    subst e1
    have hin : i < n := Nat.lt_of_lt_of_le hd hi.nxn
    rw [h3] at ha
    have ha0 : a = 0 ∧ t = F := by
      match a, ha with
      | 0, ha => simp at ha; exact ⟨rfl, ha.symm⟩
      | a + 1, ha => simp at ha
    obtain ⟨rfl, rfl⟩ := ha0
    have hmx := h10 hd (by simp)
    have harr : At i ≤ now := hi.arr i (List.mem_cons_self ..)
    have hSi : S i = now := by rw [h5 hin]; omega
    have hlo := h.lo i hin
    refine ⟨i + 1, now + Lo i, hd, e2, by show f.set 0 _ = _; rw [h3]; rfl, fun k hk => ?_, fun hk => ?_, fun h0 => by simp at h0, fun k hk => ?_, fun _ _ => hc.mem_iff.2 (List.mem_cons_self ..), fun _ hp => by simp at hp, fun _ _ => by simp only; omega⟩
    · show upd o i _ k = _
      unfold upd
      by_cases e : k = i
      · rw [if_pos e, e, hSi]; rfl
      · rw [if_neg e]; exact h4 k (by omega)
    · rw [hS i hk, hSi]
    · have : k = i := by omega
      rw [this, hSi]
  | stop c nx w f o now hr hw ih =>
    obtain ⟨d, F, h1, h2, h3, h4, h5, h6, h7, h8, h9, h10⟩ := ih
    refine ⟨d, F, h1, h2, h3, h4, h5, h6, h7, h8, fun hd _ => ?_, fun hd _ => h10 hd (by simp)⟩
    rcases hw with hw | hw
    · exfalso
      simp only at h2 hd
      rw [hw] at h2
      have := congrArg List.length h2
      simp at this
      omega
    · simp only at h3 ⊢
      exact hw F (by rw [h3]; simp)
  | clean c nx w f o now hr ih =>
    have hi := reach_inv h hr
    obtain ⟨d, F, h1, h2, h3, h4, h5, h6, h7, h8, h9, h10⟩ := ih
    have hkeep : ∀ k ∈ w, now < At k + Pa k := fun k hk => by
      have hk' : k ∈ w := hk
      simp only at h2
      rw [h2, List.mem_range'_1] at hk'
      have hkn : k < n := Nat.lt_of_lt_of_le (hi.wlt k hk) hi.nxn
      have h11 := h9 (by simp only; omega) (.inr rfl)
      have h12 := h5 (by omega)
      have h13 := S_mono h hS (i := d) (k := k) hk'.1 hkn
      have h14 := hpat k hkn
      simp only at h11
      omega
    have hf : w.filter (fun i => decide (now < At i + Pa i)) = w := List.filter_eq_self.2 (fun k hk => decide_eq_true (hkeep k hk))
    refine ⟨d, F, h1, by show w.filter _ = _; rw [hf]; exact h2, h3, fun k hk => ?_, h5, h6, h7, h8, fun hd _ => h9 hd (.inr rfl), fun _ hp => absurd rfl hp⟩
    show (if k ∈ w ∧ At k + Pa k ≤ now then ((-1 : Int), now) else o k) = _
    rw [if_neg (fun e => by have := hkeep k e.1; omega)]
    exact h4 k hk
theorem reach_lindley (h : Calls n At Lo Pa) {S : Nat → Int} (hS0 : 0 < n → S 0 = At 0) (hS : ∀ i, i + 1 < n → S (i + 1) = max (At (i + 1)) (S i + Lo i)) (hpat : ∀ i, i < n → S i ≤ At i + Pa i)
    {nx : Nat} {w : List Nat} {f : List Int} {o : Nat → Int × Int} {T : Int} (hr : Reach n 1 At Lo Pa ⟨[], nx, w, f, o, T, 0⟩) : ∀ i, i < n → o i = (0, S i) := by
  obtain ⟨rfl, rfl⟩ := reach_end h hr
  obtain ⟨d, F, h1, h2, h3, h4, _⟩ := reach_lind h hS0 hS hpat hr
  have : d = nx := by
    have := congrArg List.length h2
    simp at this
    simp only at h1
    omega
  subst this
  exact h4
end
end Go.Proofs.Ytpdpninbamgeiaa.TapeM
