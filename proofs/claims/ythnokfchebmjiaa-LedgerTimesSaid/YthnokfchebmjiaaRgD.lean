/- The contract of slices.Replace with one value, joined. Conditions: the slice is the call's own; the value lies in a block of its own. -/
import Derived.Test.YthnokfchebmjiaaRgC
namespace Go.Proofs.Ythnokfchebmjiaa
open Go.RowKit

theorem lay_end (xs ys zs : List Value) (i n : Nat) (hx : xs.length = n * 2) (hy : ys.length = 2) (hi : i < n) (hz : zs.length = (n - (i + 1)) * 2) :
    ((lay (lay xs (i * 2) ys) ((i + 1) * 2) zs).drop (0 * 2)).take ((i + 1) * 2) = xs.take (i * 2) ++ ys := by
  have e1 : lay xs (i * 2) ys = xs.take (i * 2) ++ ys ++ xs.drop ((i + 1) * 2) := by
    rw [lay_eq ys xs _ (by omega), hy]
    congr 2
    omega
  rw [e1, lay_eq zs _ _ (by simp; omega), Nat.zero_mul, List.drop_zero, List.append_assoc, List.take_append_of_le_length (by simp; omega), List.take_take, Nat.min_self, List.take_left' (by simp; omega)]

set_option maxHeartbeats 4000000 in
set_option maxRecDepth 100000 in
theorem replace_end (w : World) (g off cap n i vg : Nat) (xs ys : List Value) (h : Sl w 35 2 (.slice (some ⟨g, off, none⟩) n cap) n xs) (hv : Sl w 35 2 (.slice (some ⟨vg, 0, none⟩) 1 1) 1 ys) (hi : i < n)
    (h1 : ∀ u ∈ ys, u.oneCell' = true) :
    Calls Try.prog 46 #[.slice (some ⟨g, off, none⟩) n cap, .int .i64 i, .int .i64 n, .slice (some ⟨vg, 0, none⟩) 1 1] w fun e w' => e = .returned (.slice (some ⟨g, off, none⟩) (i + 1) cap) ∧ Sl w' 35 2 (.slice (some ⟨g, off, none⟩) (i + 1) cap) (i + 1) (xs.take (i * 2) ++ ys) ∧ Touch [g] w w' := by
  obtain ⟨i0, hi0, hz0, hz1, hz2⟩ := info_parts info38
  have hxl := h.1
  have hyl := hv.1
  obtain ⟨hnc, hcm, _⟩ := h.at
  unfold maxLen at hcm
  have hap : ∀ ty, (Builtin.append_ #[36, 36] ty #[.slice (some ⟨g, off, none⟩) i cap, .slice (some ⟨vg, 0, none⟩) 1 1]).run Try.prog w = .ok (.slice (some ⟨g, off, none⟩) (i + 1) cap) (w.setCells g (off + i * 2) ys) := fun ty => by
    have := run_append_room_cells (P := Try.prog) w 36 ty 35 i0 under27 hi0 g off i cap ⟨vg, 0, none⟩ 1 1 ys (by rw [hyl, hz1]) (fun q u hq => by
        have hq' : q < ys.length := (List.getElem?_eq_some_iff.1 hq).1
        obtain ⟨cur, hg, _, h6⟩ := hv.at.2.2 (by omega)
        rw [Addr.add_lit, cell_of_row w vg _ cur 35 _ hg, h6 q (by omega)]
        exact hq) h1 (by omega) (fun q hq => by rw [hz1, Nat.add_assoc]; exact (h.there _ (by omega)).1) (fun q hq => by rw [hz1, Nat.add_assoc]; exact (h.there _ (by omega)).2)
    rw [hz1] at this
    exact this
  obtain ⟨W1, hW1⟩ : ∃ W1, W1 = w.setCells g (off + i * 2) ys := ⟨_, rfl⟩
  have hS1 := Sl.setCells ys _ (i * 2) _ h
  have hT1 : Touch [g] w W1 := by rw [hW1]; exact Touch.setCells _ _ _
  rw [← hW1] at hap hS1
  obtain ⟨zs, hzl, hcl⟩ := run_clear_sl (P := Try.prog) (sz := 2) 36 _ under27 zero38 rfl (by intro u hu; rw [show (Value.agg #[.int .u64 0, .int .u64 0]).cells = #[.int .u64 0, .int .u64 0] from rfl] at hu; simp at hu; subst hu; rfl) hS1 (i + 1) (n - (i + 1)) (by omega) ⟨g, off + (i + 1) * 2, none⟩ (fun _ => rfl)
  have hS3 := Sl.setCells zs _ ((i + 1) * 2) _ hS1
  have hS4 := hS3.part 0 (i + 1) cap (by omega) (by omega) (by omega)
  rw [lay_end xs ys zs i n hxl hyl hi hzl, Nat.zero_mul, Nat.add_zero] at hS4
  have hT3 : Touch [g] w (W1.setCells g (off + (i + 1) * 2) zs) := hT1.trans (Touch.setCells _ _ _) (by simp)
  have HS := Lib.hid hS4
  have HT := Lib.hid hT3
  have b1 : ¬ (i : Int) = (n : Int) := by omega
  have b3 : ¬ cap = i := by omega
  have b8 : i ≤ n := by omega
  have b9 : i ≤ cap := by omega
  by_cases hc : i + 1 = n
  · subst hc
    obtain rfl : zs = [] := List.eq_nil_of_length_eq_zero (by simpa using hzl)
    clear hS4 hT3 hS3 hS1 hT1 h hv h1 hW1 hcl
    go_enter Try.func46, Try.ntmps46
    go_wp2_with (at_builtin; refine Lib.wpList_append_run _ rfl _ _ _ _ rfl _ _ rfl rfl _ _ (hap _) ?_)
    go_ret
    exact ⟨rfl, HS.out, HT.out⟩
  · have b4 : ¬ cap = i + 1 := by omega
    have b5 : (i : Int) + 1 < (n : Int) := by omega
    have b6 : i + 1 ≤ n := by omega
    clear hS4 hT3 hS3 hS1 hT1 h hv h1 hW1
    go_enter Try.func46, Try.ntmps46
    go_wp2_with (first | (at_builtin; refine Lib.wpList_append_run _ rfl _ _ _ _ rfl _ _ rfl rfl _ _ (hap _) ?_) | simp only [hcl])
    go_ret
    exact ⟨rfl, HS.out, HT.out⟩

/-- slices.Replace of a stretch by one value. -/
theorem replace_any (w : World) (sv : Value) (n i j vg : Nat) (xs ys : List Value) (h : Sl w 35 2 sv n xs) (hv : Sl w 35 2 (.slice (some ⟨vg, 0, none⟩) 1 1) 1 ys) (hi : i ≤ j) (hj : j ≤ n) (hd : vg ∉ own sv) (hb : (n + 1) * 16 ≤ 140737488355328)
    (h1x : ∀ u ∈ xs, u.oneCell' = true) (h1 : ∀ u ∈ ys, u.oneCell' = true) :
    Calls Try.prog 46 #[sv, .int .i64 i, .int .i64 j, .slice (some ⟨vg, 0, none⟩) 1 1] w fun e w' => ∃ v', e = .returned v' ∧ Sl w' 35 2 v' (i + 1 + (n - j)) (xs.take (i * 2) ++ ys ++ xs.drop (j * 2)) ∧ Touch (own sv) w w' ∧ (∀ g ∈ own v', g ∈ own sv ∨ w.heap.size ≤ g) := by
  have hxl := h.1
  rcases Nat.lt_or_eq_of_le hi with hlt | rfl
  · rcases h.cases with ⟨rfl, rfl, rfl⟩ | ⟨g, off, cap, rfl, hnc, hcm, _, _, _⟩
    · omega
    · have ho : own (.slice (some ⟨g, off, none⟩) n cap) = [g] := own_some _ _ _ (by omega)
      rcases Nat.lt_or_eq_of_le hj with hjl | rfl
      · refine (replace_in w g off cap n i j vg xs ys h hv hlt hjl h1x h1).mono fun e w' ⟨he, k1, k2⟩ => ⟨_, he, k1, by rw [ho]; exact k2, fun q hq => .inl hq⟩
      · refine (replace_end w g off cap j i vg xs ys h hv hlt h1).mono fun e w' ⟨he, k1, k2⟩ => ⟨_, he, ?_, by rw [ho]; exact k2, fun q hq => .inl hq⟩
        rw [List.drop_eq_nil_of_le (by omega), List.append_nil, Nat.sub_self, Nat.add_zero]
        exact k1
  · rw [show i + 1 + (n - i) = n + 1 from by omega]
    exact replace_same w sv n i vg xs ys h hv hj hd hb h1x h1
end Go.Proofs.Ythnokfchebmjiaa
