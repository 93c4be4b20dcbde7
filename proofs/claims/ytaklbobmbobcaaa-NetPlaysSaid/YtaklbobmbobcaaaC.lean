/- The contract of slices.Delete at one place. Conditions: the slice is the call's own. -/
import Derived.Test.YtaklbobmbobcaaaB
import Derived.Deep.RegionLaw
import Derived.Lib.SliceRun
namespace Go.Proofs.Ytaklbobmbobcaaa
open Go.RowKit

theorem info26 : (Try.prog.info? 26).map (fun i => (i.zero, i.size, i.bytes)) = some (some (.slice none 0 0), 1, 24) := by kernel_rfl
theorem zero26 (w : World) : (zeroValue 26).run Try.prog w = .ok (.slice none 0 0) w := by kernel_rfl

theorem lay_del (xs : List Value) (i : Nat) (hi : i < xs.length) (z : Value) : (lay (lay xs i (xs.drop (i + 1))) (xs.length - 1) [z]).take (xs.length - 1) = xs.eraseIdx i := by
  have e1 : lay xs i (xs.drop (i + 1)) = xs.take i ++ xs.drop (i + 1) ++ xs.drop (i + (xs.length - (i + 1))) := by
    rw [lay_eq _ _ _ (by simp; omega)]
    simp
  have hl : (lay xs i (xs.drop (i + 1))).length = xs.length := by rw [e1]; simp; omega
  rw [lay_eq _ _ _ (by simp [hl]; omega), List.append_assoc, List.take_append_of_le_length (by simp [hl]), List.take_take, Nat.min_self, e1, List.take_append_of_le_length (by simp; omega), List.take_of_length_le (by simp; omega), List.eraseIdx_eq_take_drop_succ]

theorem delete_any (w : World) (g off cap n i : Nat) (xs : List Value) (h : Sl w 26 1 (.slice (some ⟨g, off, none⟩) n cap) n xs) (hi : i < n) (h1 : ∀ u ∈ xs, u.oneCell' = true) :
    Calls Try.prog 19 #[.slice (some ⟨g, off, none⟩) n cap, .int .i64 i, .int .i64 ((i : Int) + 1)] w fun e w' => e = .returned (.slice (some ⟨g, off, none⟩) (n - 1) cap) ∧ Sl w' 26 1 (.slice (some ⟨g, off, none⟩) (n - 1) cap) (n - 1) (xs.eraseIdx i) ∧ Touch [g] w w' := by
  obtain ⟨i0, hi0, hz0, hz1, hz2⟩ := info_parts info26
  have hxn : xs.length = n := by simpa using h.1
  rcases h.cases with ⟨h0, _⟩ | ⟨g', off', cap', he, hnc, hcm, hlt, hcell, hfr⟩
  · simp at h0
  simp at he
  obtain ⟨⟨rfl, rfl⟩, rfl⟩ := he
  have hcap : 0 < cap := by omega
  unfold maxLen at hcm
  obtain ⟨A, hA, hsrc⟩ : ∃ A : Addr, (if cap = i + 1 then (some ⟨g, off, none⟩ : Option Addr) else some ⟨g, off + (i + 1), none⟩) = some A ∧ Hid (∀ t u, (xs.drop (i + 1))[t]? = some u → w.drew.cell? (A.add t) = some u) := by
    by_cases hc : cap = i + 1
    · refine ⟨⟨g, off, none⟩, by simp [hc], fun t u hu => ?_⟩
      have := (List.getElem?_eq_some_iff.1 hu).1
      simp at this
      omega
    · refine ⟨⟨g, off + (i + 1), none⟩, by simp [hc], fun t u hu => ?_⟩
      have ht := (List.getElem?_eq_some_iff.1 hu).1
      simp at ht
      rw [Addr.add_lit, show off + (i + 1) + t = off + (i + 1 + t) from by omega]
      rw [List.getElem?_drop] at hu
      exact (hcell (i + 1 + t) (by omega)).trans hu
  have s1 := Lib.hid (show (xs.drop (i + 1)).length = (n - (i + 1)) * 1 from by simp [hxn])
  have s2 := Lib.hid (show ∀ u ∈ xs.drop (i + 1), u.oneCell' = true from fun u hu => h1 u (List.mem_of_mem_drop hu))
  have s3 : Hid (∀ t, t < (xs.drop (i + 1)).length → (w.drew.cell? ⟨g, off + i * 1 + t, none⟩).isSome = true ∧ w.drew.frozen? ⟨g, off + i * 1 + t, none⟩ = false) := Lib.hid (fun t ht => by
    simp at ht
    rw [Nat.mul_one, Nat.add_assoc]
    refine ⟨?_, hfr hcap _⟩
    show (w.cell? _).isSome = true
    rw [hcell (i + t) (by omega), List.getElem?_eq_getElem (by omega)]
    rfl)
  obtain ⟨W1, hW1⟩ : ∃ W1, W1 = w.drew.setCells g (off + i * 1) (xs.drop (i + 1)) := ⟨_, rfl⟩
  have hS1 : Sl W1 26 1 (.slice (some ⟨g, off, none⟩) n cap) n (lay xs i (xs.drop (i + 1))) := by
    rw [hW1, Nat.mul_one]
    exact Sl.setCells _ _ _ _ (h.touch ((Touch.refl [] w).drew) (by simp))
  have hT1 : Touch [g] w W1 := by rw [hW1]; exact ((Touch.refl [g] w).drew).trans (Touch.setCells _ _ _) (by simp)
  have hcl : ∀ ty, (Builtin.clear_ #[45] ty #[.slice (some ⟨g, off + (i + (n - (i + 1))), none⟩) (n - (i + (n - (i + 1)))) (cap - (i + (n - (i + 1))))]).run Try.prog W1 = .ok (.tuple #[]) (W1.setCells g (off + (i + (n - (i + 1)))) (List.replicate (n - (i + (n - (i + 1)))) (.slice none 0 0))) := by
    intro ty
    rcases hS1.cases with ⟨h0, _⟩ | ⟨g', off', cap', he, _, _, _, hcell', hfr'⟩
    · simp at h0
    simp at he
    obtain ⟨⟨rfl, rfl⟩, rfl⟩ := he
    refine Lib.run_clear_slice W1 45 26 ty (.slice none 0 0) Try.underlying45 zero26 rfl rfl g (off + (i + (n - (i + 1)))) _ _ (by omega) (fun t ht => ?_) (fun t ht => hfr' hcap _)
    rw [show off + (i + (n - (i + 1))) + t = off + (i + (n - (i + 1)) + t) from by omega, hcell' _ (by omega), List.getElem?_eq_getElem (by have := hS1.1; omega)]
    rfl
  have HW := Lib.hid hW1
  have HS1 := Lib.hid hS1
  have HT1 := Lib.hid hT1
  have HXN := Lib.hid hxn
  have hic : i ≤ cap := by omega
  have hjc : i + 1 ≤ cap := by omega
  have b1 : (0 : Int) ≤ (i : Int) + 1 := by omega
  have b2 : (i : Int) + 1 ≤ (n : Int) := by omega
  clear hW1 hS1 hT1 h hcell hfr hxn h1 hlt
  go_enter Try.func19, Try.ntmps19
  go_wp2_with fail
  go_region_law (refine step_append_room rfl (.tmp 22) (.tmp 25) 45 rfl 26 i0 1 Try.underlying45 hi0 hz1 g off i cap (by simp [Act.eval, Act.put]) A (n - (i + 1)) (cap - (i + 1)) (xs.drop (i + 1)) (by simp [Act.eval, Act.put]) s1.out hsrc.out s2.out (by omega) s3.out ?_; rw [← HW.out])
  go_wp2
  go_ret
  refine ⟨by rw [show n - 1 = i + (n - (i + 1)) from by omega]; rfl, ?_, HT1.out.trans (Touch.setCells _ _ _) (by simp)⟩
  have h2 := (Sl.setCells [.slice none 0 0] _ (n - 1) _ HS1.out).part 0 (n - 1) cap (by omega) (by omega) (by omega)
  have h3 := lay_del xs i (by have := HXN.out; omega) (.slice none 0 0)
  rw [HXN.out] at h3
  rw [Nat.mul_one, Nat.mul_one, List.drop_zero, h3, Nat.add_zero] at h2
  rw [show n - (i + (n - (i + 1))) = 1 from by omega, show i + (n - (i + 1)) = n - 1 from by omega]
  exact h2
end Go.Proofs.Ytaklbobmbobcaaa
