/- slices.Delete(s, k, k+1) at []int, on a row of the call's own. The road is that of the worked proof of slices.Delete. (From the template XDelOne.) -/
import Derived.Test.YtimbkogdlmkdgaaLib
import Derived.Test.YtimbkogdlmkdgaaDelB
import Derived.Deep.RegionLaw
import Derived.RegionTactic
namespace Go.Proofs.Ytimbkogdlmkdgaa
open Go.RowKit

theorem underlyingI1 : Try.prog.underlying 23 = some (.slice 3) := by kernel_rfl
theorem zeroI1 (w : World) : (zeroValue 3).run Try.prog w = .ok (.int .i64 0) w := by kernel_rfl
theorem info_intD : (Try.prog.info? 3).map (fun i => (i.zero, i.size, i.bytes)) = some (some (.int .i64 0), 1, 8) := by kernel_rfl
set_option maxHeartbeats 4000000 in
set_option maxRecDepth 1000000 in
theorem Delete_any (B N cap k : Nat) (f : Nat → Value) (xs : List Int) (w : World) (hr : w.rowIs B 3 N f) (hf : HoldsI f xs) (hN : xs.length ≤ N) (hNc : N = cap) (hlen : cap ≤ 9223372036854775807) (hk : k < xs.length) :
    Calls Try.prog 24 #[.slice (some ⟨B, 0, none⟩) xs.length cap, .int .i64 k, .int .i64 ((k : Int) + 1)] w (DelPost B N cap (xs.take k ++ xs.drop (k + 1)) w) := by
  obtain ⟨i0, hi0, hz0, hz1, hz2⟩ : ∃ i0, Try.prog.info? 3 = some i0 ∧ i0.zero = some (.int .i64 0) ∧ i0.size = 1 ∧ i0.bytes = 8 := by
    have h := info_intD
    cases e : Try.prog.info? 3 with
    | none => rw [e] at h; cases h
    | some i =>
      rw [e] at h
      injection h with h
      injection h with h1 h2
      injection h2 with h2 h3
      exact ⟨i, rfl, h1, h2, h3⟩
  obtain ⟨news, hnews⟩ : ∃ news, news = (xs.drop (k + 1)).map (Value.int .i64) := ⟨_, rfl⟩
  have hlenN : news.length = xs.length - (k + 1) := by rw [hnews]; simp
  obtain ⟨A, hA, hsrc⟩ : ∃ A : Addr, (if cap = k + 1 then some (⟨B, 0, none⟩ : Addr) else some ⟨B, k + 1, none⟩) = some A ∧ Hid (∀ t u, news[t]? = some u → w.drew.cell? (A.add t) = some u) := by
    by_cases h : cap = k + 1
    · refine ⟨⟨B, 0, none⟩, by simp [h], Lib.hid fun t u hu => ?_⟩
      have h0 : news.length = 0 := by omega
      rw [List.length_eq_zero_iff.1 h0] at hu
      simp at hu
    · refine ⟨⟨B, k + 1, none⟩, by simp [h], Lib.hid fun t u hu => ?_⟩
      have ht := (List.getElem?_eq_some_iff.1 hu).1
      rw [hnews, List.getElem?_map, List.getElem?_drop] at hu
      obtain ⟨x, hx, rfl⟩ := Option.map_eq_some_iff.1 hu
      have := hr.cell (i := k + 1 + t) (by omega)
      rw [hf _ _ hx] at this
      rw [Addr.add_lit]
      exact this
  have s1 : Hid (news.length = (xs.length - (k + 1)) * 1) := Lib.hid (by omega)
  have s2 : Hid (∀ u ∈ news, u.oneCell' = true) := Lib.hid (by
    intro u hu
    rw [hnews] at hu
    obtain ⟨x, _, rfl⟩ := List.mem_map.1 hu
    rfl)
  have s3 : Hid (∀ t, t < news.length → (w.drew.cell? ⟨B, 0 + k * 1 + t, none⟩).isSome = true ∧ w.drew.frozen? ⟨B, 0 + k * 1 + t, none⟩ = false) := Lib.hid (by
    intro t ht
    have h1 := hr.cell (i := k + t) (by omega)
    have h2 := hr.frozen (k + t)
    rw [Nat.mul_one, Nat.zero_add]
    exact ⟨by show (w.cell? _).isSome = true; rw [h1]; rfl, h2⟩)
  obtain ⟨W1, hW1⟩ : ∃ W1, W1 = w.drew.setCells B (0 + k * 1) news := ⟨_, rfl⟩
  have hr1 : W1.rowIs B 3 N (fun j => if 0 + k * 1 ≤ j ∧ j < 0 + k * 1 + news.length then news[j - (0 + k * 1)]?.getD default else f j) := by
    rw [hW1]; exact rowIs_setCells news (0 + k * 1) w.drew f hr.drew
  have hcl : ∀ ty c, (Builtin.clear_ #[23] ty #[.slice (some ⟨B, k + (xs.length - (k + 1)), none⟩) (xs.length - (k + (xs.length - (k + 1)))) c]).run Try.prog W1 = .ok (.tuple #[]) (W1.setCells B (k + (xs.length - (k + 1))) (List.replicate (xs.length - (k + (xs.length - (k + 1)))) (.int .i64 0))) :=
    fun ty c => Lib.run_clear_slice W1 23 3 ty (.int .i64 0) underlyingI1 zeroI1 rfl rfl B _ _ c (by omega) (fun t ht => by
      have := hr1.cell (i := k + (xs.length - (k + 1)) + t) (by omega)
      rw [hnews] at this
      rw [this]
      split
      · rename_i h; simp at h; omega
      · have hx : xs[k + (xs.length - (k + 1)) + t]? = some (xs[k + (xs.length - (k + 1)) + t]'(by omega)) := List.getElem?_eq_getElem _
        rw [hf _ _ hx]; rfl) (fun t _ => hr1.frozen _)
  have hW : Hid (W1 = w.drew.setCells B (0 + k * 1) news) := Lib.hid hW1
  have ho1 : Only w W1 B := by
    rw [hW1]
    exact Only.setCells news (0 + k * 1) w.drew ⟨rfl, rfl, rfl, Nat.le_refl _, fun _ _ _ => rfl⟩
  have Hr1 := Lib.hid hr1
  have HF := Lib.hid hf
  have hkc : k ≤ cap := by omega
  have hkc2 : k + 1 ≤ cap := by omega
  have hkz : (k : Int) + 1 ≤ (xs.length : Int) := by omega
  have hkz2 : (k : Int) < (xs.length : Int) := by omega
  have hkp : (0 : Int) ≤ (k : Int) + 1 := by omega
  have hnc : (xs.length : Int) ≤ (cap : Int) := by omega
  have Hlen := Lib.hid hlenN
  have Hnews := Lib.hid hnews
  clear hW1 hr1 hr hf hnews hlenN
  go_enter Try.func24, Try.ntmps24
  go_wp2
  go_region_law (refine step_append_room rfl (.tmp 22) (.tmp 25) 23 rfl 3 i0 1 underlyingI1 hi0 hz1 B 0 k cap (by simp [Act.eval, Act.put]) A (xs.length - (k + 1)) (cap - (k + 1)) news (by simp [Act.eval, Act.put]) s1.out hsrc.out s2.out (by omega) s3.out ?_; rw [← hW.out])
  go_wp2_with (simp only [hcl])
  go_ret
  have hl : (xs.take k ++ xs.drop (k + 1)).length = k + (xs.length - (k + 1)) := by
    rw [List.length_append, List.length_take, List.length_drop]; omega
  refine ⟨ho1.setCells _ _ _, by rw [hl]; rfl, _, rowIs_setCells _ _ _ _ Hr1.out, fun t y hy => ?_⟩
  have ht := (List.getElem?_eq_some_iff.1 hy).1
  rw [hl] at ht
  have hnl := Hlen.out
  rw [if_neg (by omega)]
  by_cases h : t < k
  · rw [if_neg (by omega)]
    rw [List.getElem?_append_left (by rw [List.length_take]; omega), List.getElem?_take, if_pos h] at hy
    exact HF.out t y hy
  · rw [if_pos (by omega)]
    rw [List.getElem?_append_right (by rw [List.length_take]; omega), List.length_take, show min k xs.length = k by omega] at hy
    rw [Hnews.out, show t - (0 + k * 1) = t - k by omega, List.getElem?_map, hy]
    rfl
end Go.Proofs.Ytimbkogdlmkdgaa
