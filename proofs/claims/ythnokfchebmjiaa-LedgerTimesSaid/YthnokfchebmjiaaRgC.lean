/- The contract of slices.Replace with one value. Conditions: the slice is the call's own; the value lies in a block of its own. -/
import Derived.Test.YthnokfchebmjiaaRgB
namespace Go.Proofs.Ythnokfchebmjiaa
open Go.RowKit

set_option maxHeartbeats 4000000 in
set_option maxRecDepth 100000 in
theorem replace_same (w : World) (sv : Value) (n i vg : Nat) (xs ys : List Value) (h : Sl w 35 2 sv n xs) (hv : Sl w 35 2 (.slice (some ⟨vg, 0, none⟩) 1 1) 1 ys) (hi : i ≤ n) (hd : vg ∉ own sv) (hb : (n + 1) * 16 ≤ 140737488355328)
    (h1x : ∀ u ∈ xs, u.oneCell' = true) (h1 : ∀ u ∈ ys, u.oneCell' = true) :
    Calls Try.prog 46 #[sv, .int .i64 i, .int .i64 i, .slice (some ⟨vg, 0, none⟩) 1 1] w fun e w' => ∃ v', e = .returned v' ∧ Sl w' 35 2 v' (n + 1) (xs.take (i * 2) ++ ys ++ xs.drop (i * 2)) ∧ Touch (own sv) w w' ∧ (∀ g ∈ own v', g ∈ own sv ∨ w.heap.size ≤ g) := by
  have HC := Lib.hid (insert_any w sv n i vg xs ys h hv hi hd hb h1x h1)
  rcases h.cases with ⟨rfl, rfl, rfl⟩ | ⟨g, off, cap, rfl, hnc, hcm, _, _, _⟩
  · obtain rfl : i = 0 := by omega
    clear h hv hd hb h1x h1 hi
    go_enter Try.func46, Try.ntmps46
    go_wp2_with (go_at_call 48; refine HC.out.mono ?_; rintro e w' ⟨v', rfl, k1, k2, k3⟩)
    go_ret
    exact ⟨v', rfl, k1, k2, k3⟩
  · unfold maxLen at hcm
    have b1 : i ≤ cap := by omega
    obtain ⟨R, hR⟩ : ∃ R, R = xs.take (i * 2) ++ ys ++ xs.drop (i * 2) := ⟨_, rfl⟩
    rw [← hR] at HC ⊢
    clear h hv hd hb h1x h1 hR
    by_cases hc : cap = i
    · subst hc
      go_enter Try.func46, Try.ntmps46
      go_wp2_with (go_at_call 48; refine HC.out.mono ?_; rintro e w' ⟨v', rfl, k1, k2, k3⟩)
      go_ret
      exact ⟨v', rfl, k1, k2, k3⟩
    · go_enter Try.func46, Try.ntmps46
      go_wp2_with (go_at_call 48; refine HC.out.mono ?_; rintro e w' ⟨v', rfl, k1, k2, k3⟩)
      go_ret
      exact ⟨v', rfl, k1, k2, k3⟩

/-- The list behind a replacement in place. -/
theorem lay_rep (xs ys : List Value) (i j n : Nat) (hx : xs.length = n * 2) (hy : ys.length = 2) (hi : i < j) (hj : j ≤ n) (zs : List Value) (hz : zs.length = (n - (i + 1 + (n - j))) * 2) :
    ((lay (lay (lay xs (i * 2) ys) ((i + 1) * 2) (xs.drop (j * 2))) ((i + 1 + (n - j)) * 2) zs).drop (0 * 2)).take ((i + 1 + (n - j)) * 2) = xs.take (i * 2) ++ ys ++ xs.drop (j * 2) := by
  have e1 : lay xs (i * 2) ys = xs.take (i * 2) ++ ys ++ xs.drop ((i + 1) * 2) := by
    rw [lay_eq ys xs _ (by omega), hy]
    congr 2
    omega
  have e2 : lay (xs.take (i * 2) ++ ys ++ xs.drop ((i + 1) * 2)) ((i + 1) * 2) (xs.drop (j * 2)) = (xs.take (i * 2) ++ ys ++ xs.drop (j * 2)) ++ xs.drop ((i + 1) * 2 + (n - j) * 2) := by
    rw [lay_eq (xs.drop (j * 2)) _ _ (by simp; omega), List.take_left' (by simp; omega)]
    congr 1
    rw [List.drop_append, List.drop_eq_nil_of_le (by simp; omega), List.nil_append, List.drop_drop]
    congr 1
    simp
    omega
  rw [e1, e2, lay_eq zs _ _ (by simp; omega), Nat.zero_mul, List.drop_zero, List.append_assoc, List.take_append_of_le_length (by simp; omega), List.take_take, Nat.min_self, List.take_left' (by simp; omega)]

set_option maxHeartbeats 4000000 in
set_option maxRecDepth 100000 in
theorem replace_in (w : World) (g off cap n i j vg : Nat) (xs ys : List Value) (h : Sl w 35 2 (.slice (some ⟨g, off, none⟩) n cap) n xs) (hv : Sl w 35 2 (.slice (some ⟨vg, 0, none⟩) 1 1) 1 ys) (hi : i < j) (hj : j < n)
    (h1x : ∀ u ∈ xs, u.oneCell' = true) (h1 : ∀ u ∈ ys, u.oneCell' = true) :
    Calls Try.prog 46 #[.slice (some ⟨g, off, none⟩) n cap, .int .i64 i, .int .i64 j, .slice (some ⟨vg, 0, none⟩) 1 1] w fun e w' => e = .returned (.slice (some ⟨g, off, none⟩) (i + 1 + (n - j)) cap) ∧ Sl w' 35 2 (.slice (some ⟨g, off, none⟩) (i + 1 + (n - j)) cap) (i + 1 + (n - j)) (xs.take (i * 2) ++ ys ++ xs.drop (j * 2)) ∧ Touch [g] w w' := by
  obtain ⟨i0, hi0, hz0, hz1, hz2⟩ := info_parts info38
  have hxl := h.1
  have hyl := hv.1
  obtain ⟨hnc, hcm, _⟩ := h.at
  unfold maxLen at hcm
  obtain ⟨m, hm⟩ : ∃ m, m = i + 1 + (n - j) := ⟨_, rfl⟩
  rw [← hm]
  have hmn : m ≤ n := by omega
  have b1 : ¬ (i : Int) = (j : Int) := by omega
  have b2 : ¬ (j : Int) = (n : Int) := by omega
  have b3 : ¬ cap = i := by omega
  have b4 : ¬ cap = j := by omega
  have b5 : ¬ cap = i + 1 := by omega
  have b6 : i ≤ j := by omega
  have b7 : j ≤ n := by omega
  have b8 : i ≤ n := by omega
  have b9 : i ≤ cap := by omega
  have c1 : IntKind.i64.wrap ((i : Int) + 1) = (i : Int) + 1 := by rw [IntKind.wrap_i64]; omega
  have c2 : IntKind.i64.wrap ((i : Int) + 1 + ((n - j : Nat) : Int)) = (m : Int) := by rw [IntKind.wrap_i64]; omega
  have c3 : ((i : Int) + 1).toNat = i + 1 := by omega
  have c4 : (0 : Int) ≤ (i : Int) + 1 := by omega
  have c5 : (i : Int) + 1 ≤ (m : Int) := by omega
  have c6 : (i : Int) + 1 ≤ (j : Int) := by omega
  have c7 : ¬ (cap : Int) < (m : Int) := by omega
  have c8 : m ≤ cap := by omega
  have c9 : i ≤ m := by omega
  have HH := Lib.hid h
  have HV := Lib.hid hv
  clear h hv
  go_enter Try.func46, Try.ntmps46
  go_wp2_with fail
  go_quiet (fail)
  rw [show (i : Int) + 1 + ((n - j : Nat) : Int) = (m : Int) from by omega]
  -- the draws of the walk
  obtain ⟨W0, hW0⟩ : ∃ W0, W0 = w.drewN nq := ⟨_, rfl⟩
  have h0 : Sl W0 35 2 (.slice (some ⟨g, off, none⟩) n cap) n xs := by rw [hW0]; exact HH.out.touch ((Touch.refl [] w).drewN _) (by simp)
  have hv0 : Sl W0 35 2 (.slice (some ⟨vg, 0, none⟩) 1 1) 1 ys := by rw [hW0]; exact HV.out.touch ((Touch.refl [] w).drewN _) (by simp)
  have hT0 : Touch [g] w W0 := by rw [hW0]; exact (Touch.refl [g] w).drewN _
  have hcpA : ∀ ty dc, (Builtin.copy_ #[36, 36] ty #[.slice (some ⟨g, off + i * 2, none⟩) (m - i) dc, .slice (some ⟨vg, 0, none⟩) 1 1]).run Try.prog W0 = .ok (goInt 1) (W0.setCells g (off + i * 2) ys) := fun ty dc =>
    run_copy_sl 36 36 ty under27 hi0 hz1 h0 i (m - i) dc (m := 1) hv0.rd (by omega) (by omega) h1
  obtain ⟨W1, hW1⟩ : ∃ W1, W1 = (W0.setCells g (off + i * 2) ys).drew := ⟨_, rfl⟩
  have hS1 : Sl W1 35 2 (.slice (some ⟨g, off, none⟩) n cap) n (lay xs (i * 2) ys) := by
    rw [hW1]
    exact (Sl.setCells ys _ (i * 2) _ h0).touch ((Touch.refl [] _).drew) (by simp)
  have hT1 : Touch [g] w W1 := by rw [hW1]; exact (hT0.trans (Touch.setCells _ _ _) (by simp)).drew
  have hcpB : ∀ ty dc sc, (Builtin.copy_ #[36, 36] ty #[.slice (some ⟨g, off + (i + 1) * 2, none⟩) (m - (i + 1)) dc, .slice (some ⟨g, off + j * 2, none⟩) (n - j) sc]).run Try.prog W1 = .ok (goInt (m - (i + 1) : Nat)) (W1.setCells g (off + (i + 1) * 2) (xs.drop (j * 2))) := fun ty dc sc =>
    run_copy_sl2 36 36 ty under27 hi0 hz1 hS1 (i + 1) (m - (i + 1)) dc (by simp; omega) (fun q hq => by
      obtain ⟨cur, hg, _, h6⟩ := hS1.at.2.2 (by omega)
      rw [cell_of_row W1 g _ cur 35 _ hg, Nat.add_assoc, h6 _ (by omega), List.getElem?_drop, lay_eq ys xs _ (by omega), List.getElem?_append_right (by simp; omega), List.getElem?_drop]
      congr 1
      simp
      omega) (by omega) (by omega) (fun u hu => h1x u (List.mem_of_mem_drop hu))
  obtain ⟨W2, hW2⟩ : ∃ W2, W2 = W1.setCells g (off + (i + 1) * 2) (xs.drop (j * 2)) := ⟨_, rfl⟩
  have hS2 := Sl.setCells (xs.drop (j * 2)) _ ((i + 1) * 2) _ hS1
  rw [← hW2] at hS2
  have hT2 : Touch [g] w W2 := by rw [hW2]; exact hT1.trans (Touch.setCells _ _ _) (by simp)
  obtain ⟨AD, hAD, hAD2⟩ : ∃ AD : Addr, (if cap = m then (some ⟨g, off, none⟩ : Option Addr) else some ⟨g, off + m * 2, none⟩) = some AD ∧ (0 < n - m → AD = ⟨g, off + m * 2, none⟩) := by
    by_cases hc : cap = m
    · exact ⟨⟨g, off, none⟩, by simp [hc], fun _ => by omega⟩
    · exact ⟨⟨g, off + m * 2, none⟩, by simp [hc], fun _ => rfl⟩
  obtain ⟨zs, hzl, hcl⟩ := run_clear_sl (P := Try.prog) (sz := 2) 36 _ under27 zero38 rfl (by intro u hu; rw [show (Value.agg #[.int .u64 0, .int .u64 0]).cells = #[.int .u64 0, .int .u64 0] from rfl] at hu; simp at hu; subst hu; rfl) hS2 m (n - m) (by omega) AD hAD2
  have hS3 := Sl.setCells zs _ (m * 2) _ hS2
  have hS4 := hS3.part 0 m cap (by omega) (by omega) (by omega)
  rw [hm, lay_rep xs ys i j n hxl hyl hi (by omega) zs (by rw [hzl, hm]), ← hm, Nat.zero_mul, Nat.add_zero] at hS4
  have hT3 : Touch [g] w (W2.setCells g (off + m * 2) zs) := hT2.trans (Touch.setCells _ _ _) (by simp)
  have HS := Lib.hid hS4
  have HT := Lib.hid hT3
  have HA := Lib.hid hAD
  rw [← hW0]
  clear hS4 hT3 hS3 hT2 hS2 hS1 hT1 hT0 h0 hv0 h1x h1 hAD hAD2 hW0 HH HV hm c2
  go_wp2_with (at_builtin; refine wpList_copy_at _ rfl _ _ 36 36 rfl _ _ rfl rfl (hcpA _ _) ?_)
  go_region_law (refine step_copy_at rfl _ _ 36 36 rfl (.slice (some ⟨g, off + (i + 1) * 2, none⟩) (m - (i + 1)) (cap - (i + 1))) (.slice (some ⟨g, off + j * 2, none⟩) (n - j) (cap - j)) (by simp [Act.eval, Act.put]) (by simp [Act.eval, Act.put]) (by rw [← hW1]; exact hcpB _ _ _) ?_)
  rw [← hW1, ← hW2]
  clear hW1 hW2 hcpA hcpB
  by_cases hc : cap = m
  · have ha := HA.out
    rw [if_pos hc] at ha
    obtain rfl : (⟨g, off, none⟩ : Addr) = AD := by simpa using ha
    clear ha
    go_wp2_with (simp only [hcl])
    go_ret
    exact ⟨rfl, HS.out, HT.out⟩
  · have ha := HA.out
    rw [if_neg hc] at ha
    obtain rfl : (⟨g, off + m * 2, none⟩ : Addr) = AD := by simpa using ha
    clear ha
    go_wp2_with (simp only [hcl])
    go_ret
    exact ⟨rfl, HS.out, HT.out⟩
end Go.Proofs.Ythnokfchebmjiaa
