/- The contract of slices.Insert with one value. Conditions: the slice is the call's own; the value lies in a block of its own. -/
import Derived.Test.YthnokfchebmjiaaRgA
import Derived.Laws.Externs
import Derived.Lib.Walk
namespace Go.Proofs.Ythnokfchebmjiaa
open Go.RowKit

theorem info38 : (Try.prog.info? 35).map (fun i => (i.zero, i.size, i.bytes)) = some (some (.agg #[.int .u64 0, .int .u64 0]), 2, 16) := by kernel_rfl
theorem zero38 (w : World) : (zeroValue 35).run Try.prog w = .ok (.agg #[.int .u64 0, .int .u64 0]) w := by kernel_rfl
theorem size38 (w : World) : (sizeOf 35).run Try.prog w = .ok 2 w := by kernel_rfl
theorem under3 : Try.prog.underlying 3 = some (.int .i64) := by kernel_rfl
theorem under27 : Try.prog.underlying 36 = some (.slice 35) := by kernel_rfl

theorem run_no_overlap (w : World) (g off n cap vg : Nat) (xs ys : List Value) (h : Sl w 35 2 (.slice (some ⟨g, off, none⟩) n cap) n xs) (h0 : 0 < cap) (hv : Sl w 35 2 (.slice (some ⟨vg, 0, none⟩) 1 1) 1 ys) (hd : vg ≠ g) (o lb cb : Nat) :
    (callFunc 49 #[.slice (some ⟨vg, 0, none⟩) 1 1, .slice (some ⟨g, o, none⟩) lb cb]).run Try.prog w = .ok (.value (.bool false)) w := by
  obtain ⟨k1, hs1, hk1⟩ := hv.shape (by omega)
  obtain ⟨k2, hs2, hk2⟩ := h.shape h0
  rw [run_callFunc_extern Try.func49 (by kernel_rfl) (by kernel_rfl) (by kernel_rfl) (e := Extern.SlicesOverlaps.overlaps #[36, 36] #[4]) (by kernel_rfl),
    Lib.run_overlaps_apart w 36 4 35 under27 2 size38 ⟨vg, 0, none⟩ ⟨g, o, none⟩ 1 1 lb cb hd 35 35 k1 k2 hs1 hs2 (by omega) (hv.cool (by omega) 0) (hv.cool (by omega) k1)]
  rfl

theorem insert_end (w : World) (sv : Value) (n : Nat) (xs ys : List Value) (vv : Value) (h : Sl w 35 2 sv n xs) (hv : Rd w 2 vv 1 ys) (h1 : ∀ u ∈ ys, u.oneCell' = true) (hb : (n + 1) * 16 ≤ 140737488355328) :
    Calls Try.prog 48 #[sv, .int .i64 n, vv] w fun e w' => ∃ v', e = .returned v' ∧ Sl w' 35 2 v' (n + 1) (xs ++ ys) ∧ Touch (own sv) w w' ∧ (∀ g ∈ own v', g ∈ own sv ∨ w.heap.size ≤ g) := by
  obtain ⟨i0, hi0, hz0, hz1, hz2⟩ := info_parts info38
  have hvl := hv.lenOf (P := Try.prog)
  obtain ⟨va, vc, rfl⟩ := hv.form
  have hw : n + 1 ≤ maxLen := by unfold maxLen; omega
  rcases h.cases with ⟨rfl, rfl, rfl⟩ | ⟨g, off, cap, rfl, hnc, hcm, _, _, _⟩
  · go_enter Try.func48, Try.ntmps48
    go_wp2_with (at_builtin; refine wpList_append_sl _ rfl _ _ 36 rfl 35 i0 _ 2 16 under27 hi0 hz0 hz1 hz2 rfl (by omega) _ 0 [] rfl h _ 1 ys rfl hv h1 hw hb fun a' c' w' k1 k2 k3 k4 => ?_)
    go_ret
    exact ⟨_, rfl, k1, k2, k3⟩
  · unfold maxLen at hcm
    by_cases hcn : cap = n
    · subst hcn
      go_enter Try.func48, Try.ntmps48
      go_wp2_with (at_builtin; refine wpList_append_sl _ rfl _ _ 36 rfl 35 i0 _ 2 16 under27 hi0 hz0 hz1 hz2 rfl (by omega) (.slice (some ⟨g, off, none⟩) cap cap) cap xs rfl h _ 1 ys rfl hv h1 hw hb fun a' c' w' k1 k2 k3 k4 => ?_)
      go_ret
      exact ⟨_, rfl, k1, k2, k3⟩
    · go_enter Try.func48, Try.ntmps48
      go_wp2_with (at_builtin; refine wpList_append_sl _ rfl _ _ 36 rfl 35 i0 _ 2 16 under27 hi0 hz0 hz1 hz2 rfl (by omega) (.slice (some ⟨g, off, none⟩) n cap) n xs rfl h _ 1 ys rfl hv h1 hw hb fun a' c' w' k1 k2 k3 k4 => ?_)
      go_ret
      exact ⟨_, rfl, k1, k2, k3⟩

theorem lay_ins (xs ys zs : List Value) (i n : Nat) (hx : xs.length = n * 2) (hy : ys.length = 2) (hz : zs.length = 2) (hi : i ≤ n) :
    lay (lay (xs ++ zs) ((i + 1) * 2) (xs.drop (i * 2))) (i * 2) ys = xs.take (i * 2) ++ ys ++ xs.drop (i * 2) := by
  have e1 : lay (xs ++ zs) ((i + 1) * 2) (xs.drop (i * 2)) = (xs ++ zs).take ((i + 1) * 2) ++ xs.drop (i * 2) := by
    rw [lay_eq (xs.drop (i * 2)) (xs ++ zs) _ (by simp; omega)]
    have : (xs ++ zs).drop ((i + 1) * 2 + (xs.drop (i * 2)).length) = [] := List.drop_eq_nil_of_le (by simp; omega)
    rw [this, List.append_nil]
  have hl : ((xs ++ zs).take ((i + 1) * 2)).length = (i + 1) * 2 := by simp; omega
  have e2 : ((xs ++ zs).take ((i + 1) * 2) ++ xs.drop (i * 2)).take (i * 2) = xs.take (i * 2) := by
    rw [List.take_append_of_le_length (by omega), List.take_take, Nat.min_eq_left (by omega), List.take_append_of_le_length (by omega)]
  have e3 : ((xs ++ zs).take ((i + 1) * 2) ++ xs.drop (i * 2)).drop (i * 2 + ys.length) = xs.drop (i * 2) := List.drop_left' (by omega)
  rw [e1, lay_eq ys _ _ (by simp; omega), e2, e3]

theorem insert_shift (w : World) (g off cap n i vg : Nat) (xs ys : List Value) (h : Sl w 35 2 (.slice (some ⟨g, off, none⟩) n cap) n xs) (hv : Sl w 35 2 (.slice (some ⟨vg, 0, none⟩) 1 1) 1 ys) (hd : vg ≠ g) (hi : i < n) (hr : n + 1 ≤ cap)
    (h1x : ∀ u ∈ xs, u.oneCell' = true) (h1 : ∀ u ∈ ys, u.oneCell' = true) :
    Calls Try.prog 48 #[.slice (some ⟨g, off, none⟩) n cap, .int .i64 i, .slice (some ⟨vg, 0, none⟩) 1 1] w fun e w' => e = .returned (.slice (some ⟨g, off, none⟩) (n + 1) cap) ∧ Sl w' 35 2 (.slice (some ⟨g, off, none⟩) (n + 1) cap) (n + 1) (xs.take (i * 2) ++ ys ++ xs.drop (i * 2)) ∧ Touch [g] w w' := by
  obtain ⟨i0, hi0, hz0, hz1, hz2⟩ := info_parts info38
  obtain ⟨zs, hzl, hm⟩ := h.more 1 hr
  have hxl := h.1
  have hyl := hv.1
  have hcm := h.at.2.1
  unfold maxLen at hcm
  have hno := fun o lb cb => run_no_overlap w g off n cap vg xs ys h (by omega) hv hd o lb cb
  obtain ⟨W1, hW1⟩ : ∃ W1, W1 = w.drew.setCells g (off + (i + 1) * 2) (xs.drop (i * 2)) := ⟨_, rfl⟩
  have hmd := hm.touch ((Touch.refl [] w).drew) (by simp)
  have hcell : ∀ j, j < n * 2 → w.drew.cell? ⟨g, off + j, none⟩ = xs[j]? := fun j hj => by
    obtain ⟨cur, hg, _, h6⟩ := h.at.2.2 (by omega)
    show w.cell? _ = _
    rw [cell_of_row w g _ cur 35 _ hg]
    exact h6 j hj
  have hcp1 : ∀ ty dc sc, (Builtin.copy_ #[36, 36] ty #[.slice (some ⟨g, off + (i + 1) * 2, none⟩) (n - i) dc, .slice (some ⟨g, off + i * 2, none⟩) (n + 1 - i) sc]).run Try.prog w.drew = .ok (goInt (n - i : Nat)) W1 := fun ty dc sc => by
    rw [hW1]
    exact run_copy_sl2 36 36 ty under27 hi0 hz1 hmd (i + 1) (n - i) dc (by simp; omega) (fun j hj => by
      rw [Nat.add_assoc, hcell _ (by omega), List.getElem?_drop]) (by omega) (by omega) (fun u hu => h1x u (List.mem_of_mem_drop hu))
  have hS1 : Sl W1 35 2 (.slice (some ⟨g, off, none⟩) (n + 1) cap) (n + 1) (lay (xs ++ zs) ((i + 1) * 2) (xs.drop (i * 2))) := by
    rw [hW1]
    exact Sl.setCells _ _ _ _ hmd
  have hT1 : Touch [g] w W1 := by rw [hW1]; exact ((Touch.refl [g] w).drew).trans (Touch.setCells _ _ _) (by simp)
  have hv1 := hv.touch hT1 (by rw [own_some _ _ _ (by omega)]; simpa using hd)
  have hcp2 : ∀ ty dc, (Builtin.copy_ #[36, 36] ty #[.slice (some ⟨g, off + i * 2, none⟩) (n + 1 - i) dc, .slice (some ⟨vg, 0, none⟩) 1 1]).run Try.prog W1 = .ok (goInt 1) (W1.setCells g (off + i * 2) ys) := fun ty dc =>
    run_copy_sl 36 36 ty under27 hi0 hz1 hS1 i (n + 1 - i) dc (m := 1) hv1.rd (by omega) (by omega) h1
  have hS2 := Sl.setCells ys _ (i * 2) _ hS1
  rw [lay_ins xs ys zs i n hxl hyl hzl (by omega)] at hS2
  have hT2 : Touch [g] w (W1.setCells g (off + i * 2) ys) := hT1.trans (Touch.setCells _ _ _) (by simp)
  have HS := Lib.hid hS2
  have HT := Lib.hid hT2
  have b1 : ¬ (i : Int) = (n : Int) := by omega
  have b2 : ¬ cap = i := by omega
  have b3 : ¬ cap = i + 1 := by omega
  have b4 : IntKind.i64.wrap ((i : Int) + 1) = (i : Int) + 1 := by rw [IntKind.wrap_i64]; omega
  have b5 : ((i : Int) + 1).toNat = i + 1 := by omega
  have b6 : (0 : Int) ≤ (i : Int) + 1 := by omega
  have b7 : (i : Int) + 1 ≤ (n : Int) + 1 := by omega
  have b8 : (i : Int) ≤ (n : Int) + 1 := by omega
  clear hS2 hT2 hv1 hS1 hT1 hcell hmd hm h hv h1x h1 hW1
  go_enter Try.func48, Try.ntmps48
  go_wp2_with (simp only [hno])
  go_region_law (refine step_copy_at rfl _ _ 36 36 rfl (.slice (some ⟨g, off + (i + 1) * 2, none⟩) (n - i) (cap - (i + 1))) (.slice (some ⟨g, off + i * 2, none⟩) (n + 1 - i) (cap - i)) (by simp [Act.eval, Act.put]) (by simp [Act.eval, Act.put]) (hcp1 _ _ _) ?_)
  go_wp2_with (at_builtin; refine wpList_copy_at _ rfl _ _ 36 36 rfl _ _ rfl rfl (hcp2 _ _) ?_)
  go_ret
  exact ⟨rfl, HS.out, HT.out⟩

theorem lay_grow (xs ys zs : List Value) (i n : Nat) (hx : xs.length = n * 2) (hy : ys.length = 2) (hi : i < n) (hz : zs.length = (n + 1 - i) * 2) :
    lay (lay (xs.take (i * 2) ++ zs) (i * 2) ys) ((i + 1) * 2) (xs.drop (i * 2)) = xs.take (i * 2) ++ ys ++ xs.drop (i * 2) := by
  have e1 : lay (xs.take (i * 2) ++ zs) (i * 2) ys = xs.take (i * 2) ++ ys ++ zs.drop 2 := by
    rw [lay_eq ys _ _ (by simp; omega), List.take_left' (by simp; omega), List.drop_append, List.drop_eq_nil_of_le (by simp; omega), List.nil_append, hy]
    congr 2
    simp
    omega
  rw [e1, lay_eq (xs.drop (i * 2)) _ _ (by simp; omega), List.take_left' (by simp; omega)]
  have : (xs.take (i * 2) ++ ys ++ zs.drop 2).drop ((i + 1) * 2 + (xs.drop (i * 2)).length) = [] := List.drop_eq_nil_of_le (by simp; omega)
  rw [this, List.append_nil]

theorem insert_grow (w : World) (g off cap n i vg : Nat) (xs ys : List Value) (h : Sl w 35 2 (.slice (some ⟨g, off, none⟩) n cap) n xs) (hv : Sl w 35 2 (.slice (some ⟨vg, 0, none⟩) 1 1) 1 ys) (hi : i < n) (hr : cap < n + 1) (hb : (n + 1) * 16 ≤ 140737488355328)
    (h1x : ∀ u ∈ xs, u.oneCell' = true) (h1 : ∀ u ∈ ys, u.oneCell' = true) :
    Calls Try.prog 48 #[.slice (some ⟨g, off, none⟩) n cap, .int .i64 i, .slice (some ⟨vg, 0, none⟩) 1 1] w fun e w' => ∃ c, e = .returned (.slice (some ⟨w.heap.size, 0, none⟩) (n + 1) c) ∧ Sl w' 35 2 (.slice (some ⟨w.heap.size, 0, none⟩) (n + 1) c) (n + 1) (xs.take (i * 2) ++ ys ++ xs.drop (i * 2)) ∧ Touch [] w w' := by
  obtain ⟨i0, hi0, hz0, hz1, hz2⟩ := info_parts info38
  have hxl := h.1
  have hyl := hv.1
  have hnc := h.at.1
  have hgl : g < w.heap.size := h.lt g (by rw [own_some _ _ _ (by omega)]; simp)
  have hvl : vg < w.heap.size := hv.lt vg (by rw [own_some _ _ _ (by omega)]; simp)
  have hj : i + (n + 1 - i) = n + 1 := by omega
  obtain ⟨c, zs, W1, hr1, hzl, hc1, hc2, hS1, hT1⟩ := run_zeros_sl (P := Try.prog) 36 3 36 under27 under3 hi0 hz0 hz1 rfl (by omega) h i (n + 1 - i) (by omega) (by omega) (by omega) (by unfold maxLen; omega) (by rw [hz2]; omega)
  rw [hj] at hr1 hc1 hS1
  have hkk : (n : Int) + 1 - (i : Int) = ((n + 1 - i : Nat) : Int) := by omega
  rw [← hkk] at hr1
  unfold maxLen at hc2
  obtain ⟨N, hN⟩ : ∃ N, N = w.heap.size := ⟨_, rfl⟩
  rw [← hN] at hr1 hS1 ⊢
  have hv1 := hv.touch hT1 (by simp)
  have hcpA : ∀ ty dc, (Builtin.copy_ #[36, 36] ty #[.slice (some ⟨N, 0 + i * 2, none⟩) (n + 1 - i) dc, .slice (some ⟨vg, 0, none⟩) 1 1]).run Try.prog W1 = .ok (goInt 1) (W1.setCells N (0 + i * 2) ys) := fun ty dc =>
    run_copy_sl 36 36 ty under27 hi0 hz1 hS1 i (n + 1 - i) dc (m := 1) hv1.rd (by omega) (by omega) h1
  obtain ⟨W2, hW2⟩ : ∃ W2, W2 = (W1.setCells N (0 + i * 2) ys).drew := ⟨_, rfl⟩
  have hS2 : Sl W2 35 2 (.slice (some ⟨N, 0, none⟩) (n + 1) c) (n + 1) (lay (xs.take (i * 2) ++ zs) (i * 2) ys) := by
    rw [hW2]
    exact (Sl.setCells ys _ (i * 2) _ hS1).touch ((Touch.refl [] _).drew) (by simp)
  have hT2 : Touch [] w W2 := by
    rw [hW2]
    exact (hT1.trans (Touch.setCells _ _ _) (by simp [hN])).drew
  have h2 := h.touch hT2 (by simp)
  have hcpB : ∀ ty dc sc, (Builtin.copy_ #[36, 36] ty #[.slice (some ⟨N, 0 + (i + 1) * 2, none⟩) (n - i) dc, .slice (some ⟨g, off + i * 2, none⟩) (n - i) sc]).run Try.prog W2 = .ok (goInt (n - i : Nat)) (W2.setCells N (0 + (i + 1) * 2) (xs.drop (i * 2))) := fun ty dc sc =>
    run_copy_sl2 36 36 ty under27 hi0 hz1 hS2 (i + 1) (n - i) dc (by simp; omega) (fun j hj => by
      obtain ⟨cur, hg, _, h6⟩ := h2.at.2.2 (by omega)
      rw [cell_of_row W2 g _ cur 35 _ hg, Nat.add_assoc, h6 _ (by omega), List.getElem?_drop]) (by omega) (by omega) (fun u hu => h1x u (List.mem_of_mem_drop hu))
  have hS3 := Sl.setCells (xs.drop (i * 2)) _ ((i + 1) * 2) _ hS2
  rw [lay_grow xs ys zs i n hxl hyl hi hzl] at hS3
  have hT3 : Touch [] w (W2.setCells N (0 + (i + 1) * 2) (xs.drop (i * 2))) := hT2.trans (Touch.setCells _ _ _) (by simp [hN])
  rw [Nat.zero_add] at hS3 hT3
  have HS := Lib.hid hS3
  have HT := Lib.hid hT3
  have b1 : ¬ (i : Int) = (n : Int) := by omega
  have b2 : ¬ c = i := by omega
  have b3 : ¬ c = i + 1 := by omega
  have b4 : IntKind.i64.wrap ((i : Int) + 1) = (i : Int) + 1 := by rw [IntKind.wrap_i64]; omega
  have b5 : ((i : Int) + 1).toNat = i + 1 := by omega
  have b6 : (0 : Int) ≤ (i : Int) + 1 := by omega
  have b7 : (i : Int) + 1 ≤ (n : Int) + 1 := by omega
  have b8 : (i : Int) ≤ (n : Int) + 1 := by omega
  have b9 : ¬ cap = i := by omega
  have b10 : i ≤ n := by omega
  rw [Nat.zero_add] at hcpA
  rw [Nat.zero_add] at hcpB
  rw [Nat.zero_add] at hW2
  clear hS3 hT3 h2 hT2 hS2 hv1 hS1 hT1 h hv h1x h1 hkk hj hN
  go_enter Try.func48, Try.ntmps48
  go_wp2_with (first
    | (at_builtin; refine Lib.wpList_append_run _ rfl _ _ _ _ rfl _ _ rfl rfl _ _ hr1 ?_)
    | (at_builtin; refine wpList_copy_at _ rfl _ _ 36 36 rfl _ _ rfl rfl (hcpA _ _) ?_))
  go_region_law (refine step_copy_at rfl _ _ 36 36 rfl (.slice (some ⟨N, (i + 1) * 2, none⟩) (n - i) (c - (i + 1))) (.slice (some ⟨g, off + i * 2, none⟩) (n - i) (cap - i)) (by simp [Act.eval, Act.put]) (by simp [Act.eval, Act.put]) (by rw [← hW2]; exact hcpB _ _ _) ?_)
  go_wp2
  go_ret
  rw [← hW2]
  exact ⟨c, rfl, HS.out, HT.out⟩

/-- slices.Insert of one value. -/
theorem insert_any (w : World) (sv : Value) (n i vg : Nat) (xs ys : List Value) (h : Sl w 35 2 sv n xs) (hv : Sl w 35 2 (.slice (some ⟨vg, 0, none⟩) 1 1) 1 ys) (hi : i ≤ n) (hd : vg ∉ own sv) (hb : (n + 1) * 16 ≤ 140737488355328)
    (h1x : ∀ u ∈ xs, u.oneCell' = true) (h1 : ∀ u ∈ ys, u.oneCell' = true) :
    Calls Try.prog 48 #[sv, .int .i64 i, .slice (some ⟨vg, 0, none⟩) 1 1] w fun e w' => ∃ v', e = .returned v' ∧ Sl w' 35 2 v' (n + 1) (xs.take (i * 2) ++ ys ++ xs.drop (i * 2)) ∧ Touch (own sv) w w' ∧ (∀ g ∈ own v', g ∈ own sv ∨ w.heap.size ≤ g) := by
  have hxl := h.1
  rcases Nat.lt_or_eq_of_le hi with hlt | rfl
  · rcases h.cases with ⟨rfl, rfl, rfl⟩ | ⟨g, off, cap, rfl, hnc, hcm, _, _, _⟩
    · omega
    · by_cases hr : n + 1 ≤ cap
      · have hd' : vg ≠ g := by rw [own_some _ _ _ (by omega)] at hd; simpa using hd
        refine (insert_shift w g off cap n i vg xs ys h hv hd' hlt hr h1x h1).mono fun e w' ⟨he, k1, k2⟩ => ⟨_, he, k1, ?_, ?_⟩
        · rw [own_some _ _ _ (by omega)]; exact k2
        · intro q hq; exact .inl hq
      · refine (insert_grow w g off cap n i vg xs ys h hv hlt (by omega) hb h1x h1).mono fun e w' ⟨c, he, k1, k2⟩ => ⟨_, he, k1, k2.mono (by simp), ?_⟩
        intro q hq; rw [(mem_own hq).1]; exact .inr (Nat.le_refl _)
  · rw [List.take_of_length_le (by omega), List.drop_eq_nil_of_le (by omega), List.append_nil]
    exact insert_end w sv _ xs ys _ h hv.rd h1 hb
end Go.Proofs.Ythnokfchebmjiaa
