/- The contracts of slices.Reverse and slices.Clone. Conditions: the slice is the call's own; what is cloned is readable. -/
import Derived.Test.YtmidlielcioinaaRgU
import Derived.Test.YtmidlielcioinaaRgJ
import Derived.Test.YtmidlielcioinaaH
import Derived.Test.YtmidlielcioinaaK
import Derived.BigRegion
namespace Go.Proofs.Ytmidlielcioinaa
open Go.RowKit

theorem cr_set (L : List Rng) (k : Nat) (x : Rng) : ((cr L).set (k * 2) (.int .u64 (x.1 : Int))).set (k * 2 + 1) (.int .u64 (x.2 : Int)) = cr (L.set k x) := by
  induction L generalizing k with
  | nil => simp [cr]
  | cons y L ih =>
    rw [cr_cons]
    match k with
    | 0 => rfl
    | k + 1 =>
      rw [List.set_cons_succ, cr_cons, ← ih k, show (k + 1) * 2 = k * 2 + 1 + 1 from by omega]
      rfl
/-- A list of which the ends are turned, k at each. -/
def Turned (l M : List Rng) (k : Nat) : Prop := M.length = l.length ∧ ∀ i, i < l.length → M[i]? = if i < k ∨ l.length ≤ i + k then l.reverse[i]? else l[i]?
theorem Turned.step {l M : List Rng} {k m : Nat} {x y : Rng} (h : Turned l M k) (hk : k < m) (hm : k + m + 1 = l.length) (hx : M[k]? = some x) (hy : M[m]? = some y) : Turned l ((M.set k y).set m x) (k + 1) := by
  obtain ⟨h1, h2⟩ := h
  refine ⟨by simp [h1], fun i hi => ?_⟩
  have e1 := h2 k (by omega)
  have e2 := h2 m (by omega)
  rw [if_neg (by omega), hx] at e1
  rw [if_neg (by omega), hy] at e2
  by_cases c1 : i = m
  · subst c1
    rw [List.getElem?_set_self (by simp; omega), if_pos (by omega), List.getElem?_reverse (by omega), show l.length - 1 - i = k from by omega, e1]
  · rw [List.getElem?_set_ne (fun e => c1 e.symm)]
    by_cases c2 : i = k
    · subst c2
      rw [List.getElem?_set_self (by omega), if_pos (by omega), List.getElem?_reverse (by omega), show l.length - 1 - i = m from by omega, e2]
    · rw [List.getElem?_set_ne (fun e => c2 e.symm), h2 i hi]
      by_cases c3 : i < k ∨ l.length ≤ i + k
      · rw [if_pos c3, if_pos (by omega)]
      · rw [if_neg c3, if_neg (by omega)]
theorem Turned.done {l M : List Rng} {k : Nat} (h : Turned l M k) (hk : l.length ≤ k + k + 1) : M = l.reverse := by
  obtain ⟨h1, h2⟩ := h
  refine List.ext_getElem? fun i => ?_
  by_cases hi : i < l.length
  · rw [h2 i hi]
    split
    · rfl
    · next hc =>
      rw [List.getElem?_reverse hi]
      congr 1
      omega
  · rw [List.getElem?_eq_none (by omega), List.getElem?_eq_none (by simp; omega)]

set_option maxHeartbeats 4000000 in
theorem reverse_any (w : World) (v : Value) (n : Nat) (l : List Rng) (h : Sl w 56 2 v n (cr l)) (hn : l.length = n) :
    Calls Try.prog 35 #[v] w fun e w' => e = .returned (.tuple #[]) ∧ Sl w' 56 2 v n (cr l.reverse) ∧ Touch (own v) w w' := by
  have hw := h.wide
  unfold maxLen at hw
  rcases h.cases with ⟨rfl, rfl, h0⟩ | ⟨g, off, cap, rfl, hnc, hcm, _, _, _⟩
  · obtain rfl : l = [] := List.eq_nil_of_length_eq_zero hn
    have H := Lib.hid h
    clear h h0 hn
    go_enter Try.func35, Try.ntmps35
    go_wp2_with fail
    refine wp_loop_rounds 1 ?_
    rw [rounds_succ]
    go_wp2_with fail
    go_end0
    exact ⟨rfl, H.out, Touch.refl _ _⟩
  have H := Lib.hid h
  have HN := Lib.hid hn
  clear h hn
  have HO : Hid (0 < n → own (.slice (some ⟨g, off, none⟩) n cap) = [g]) := Lib.hid fun h => own_some _ _ _ (by omega)
  go_enter Try.func35, Try.ntmps35
  go_wp2_with fail
  go_loopw [2, 3] (fun i j wr => ∃ (k : Nat) (M : List Rng), k + k ≤ n + 1 ∧ i = .int .i64 (k : Int) ∧ j = .int .i64 ((n : Int) - 1 - (k : Int)) ∧ Hid (Turned l M k) ∧ Hid (Sl wr 56 2 (.slice (some ⟨g, off, none⟩) n cap) n (cr M)) ∧ Hid (Touch (own (.slice (some ⟨g, off, none⟩) n cap)) w wr)) (fun i _ _ => n + 1 - (intOf i).toNat)
  case atStart => exact ⟨0, l, by omega, by simp, by simp, Lib.hid ⟨rfl, fun i hi => by rw [if_neg (by omega)]⟩, H, Lib.hid (Touch.refl _ _)⟩
  case round =>
    obtain ⟨k, M, hk, rfl, rfl, HT, HS, HW⟩ := hrel
    have hML := HT.out.1
    have hln := HN.out
    by_cases hlt : (k : Int) < (n : Int) - 1 - (k : Int)
    · obtain ⟨m, hm⟩ : ∃ m, m = n - 1 - k := ⟨_, rfl⟩
      have HMI : Hid ((n : Int) - 1 - (k : Int) = (m : Int)) := Lib.hid (by omega)
      have hkm : k < m := by omega
      have hmn : k + m + 1 = n := by omega
      obtain ⟨x, hx⟩ : ∃ x, M[k]? = some x := ⟨_, List.getElem?_eq_getElem (by omega)⟩
      obtain ⟨y, hy⟩ : ∃ y, M[m]? = some y := ⟨_, List.getElem?_eq_getElem (by omega)⟩
      have HTS := Lib.hid (HT.out.step hkm (by omega) hx hy)
      obtain ⟨c1, c2, hg⟩ := HS.out.rd.two (by omega) k x hx
      obtain ⟨c3, c4, _⟩ := HS.out.rd.two (by omega) m y hy
      have z1 := HS.out.cool (by omega) (off + k * 2)
      have z2 := HS.out.cool (by omega) (off + k * 2 + 1)
      have z3 := HS.out.cool (by omega) (off + m * 2)
      have z4 := HS.out.cool (by omega) (off + m * 2 + 1)
      obtain ⟨x1, x2⟩ := x
      obtain ⟨y1, y2⟩ := y
      simp only at c1 c2 c3 c4
      have n1 : ¬ off + k * 2 = off + m * 2 := by omega
      have n2 : ¬ off + k * 2 + 1 = off + m * 2 := by omega
      have n3 : ¬ off + k * 2 = off + m * 2 + 1 := by omega
      have n4 : ¬ off + k * 2 + 1 = off + m * 2 + 1 := by omega
      have hkn : (k : Int) < (n : Int) := by omega
      have hmn' : (m : Int) < (n : Int) := by omega
      have hlt2 : (k : Int) < (m : Int) := by omega
      have HMN := Lib.hid hmn
      have HMM := Lib.hid hm
      have HO2 := Lib.hid (HO.out (by omega))
      rw [HMI.out] at hlt ⊢
      clear hx hy hmn hm hML hln
      go_wp2_with fail
      refine wp_region_hold (fun w' => True) (fun w' => w'.cell? ⟨g, off + k * 2, none⟩ = some (.int .u64 (x1 : Int)) ∧ w'.cell? ⟨g, off + k * 2 + 1, none⟩ = some (.int .u64 (x2 : Int)) ∧ w'.cell? ⟨g, off + m * 2, none⟩ = some (.int .u64 (y1 : Int)) ∧ w'.cell? ⟨g, off + m * 2 + 1, none⟩ = some (.int .u64 (y2 : Int))) [13, 15] [false, false, false, false, false, false, false, false, false, false, false, false, false, false, false, false] (by kernel_rfl) (by kernel_rfl) (by trivial) (by go_keep) (fun hS => ?_)
      refine takeG (i := 0) (v := ?_) rfl (by kernel_rfl) (by kernel_rfl) (by kernel_rfl) (by kernel_rfl) (fun _ _ _ h => h) (Or.inl ⟨by rfl, ?_⟩) hS (fun hT => ?_)
      rotate_left
      · intro w hC; (try dsimp only at hC); go_simp; try with_reducible rfl
      clear hS
      have hS := hT
      clear hT
      simp only [Act.put, List.setIfInBounds_toArray, List.set_cons_zero] at hS ⊢
      refine takeG (i := 1) (v := ?_) rfl (by kernel_rfl) (by kernel_rfl) (by kernel_rfl) (by kernel_rfl) (fun _ _ _ h => h) (Or.inl ⟨by rfl, ?_⟩) hS (fun hT => ?_)
      rotate_left
      · intro w hC; (try dsimp only at hC); go_simp; try with_reducible rfl
      clear hS
      have hS := hT
      clear hT
      simp only [Act.put, List.setIfInBounds_toArray, List.set_cons_zero, List.set_cons_succ] at hS ⊢
      refine takeG (i := 4) (v := ?_) rfl (by kernel_rfl) (by kernel_rfl) (by kernel_rfl) (by kernel_rfl) (fun _ _ _ h => h) (Or.inl ⟨by rfl, ?_⟩) hS (fun hT => ?_)
      rotate_left
      · intro w hC; (try dsimp only at hC); go_simp; try with_reducible rfl
      clear hS
      have hS := hT
      clear hT
      simp only [Act.put, List.setIfInBounds_toArray, List.set_cons_zero, List.set_cons_succ] at hS ⊢
      refine takeG (i := 5) (v := ?_) rfl (by kernel_rfl) (by kernel_rfl) (by kernel_rfl) (by kernel_rfl) (fun _ _ _ h => h) (Or.inl ⟨by rfl, ?_⟩) hS (fun hT => ?_)
      rotate_left
      · intro w hC; (try dsimp only at hC); go_simp; try with_reducible rfl
      clear hS
      have hS := hT
      clear hT
      simp only [Act.put, List.setIfInBounds_toArray, List.set_cons_zero, List.set_cons_succ] at hS ⊢
      refine takeG (i := 6) (v := ?_) rfl (by kernel_rfl) (by kernel_rfl) (by kernel_rfl) (by kernel_rfl) (fun _ _ _ h => h) (Or.inl ⟨by rfl, ?_⟩) hS (fun hT => ?_)
      rotate_left
      · intro w hC; (try dsimp only at hC); go_simp; try with_reducible rfl
      clear hS
      have hS := hT
      clear hT
      simp only [Act.put, List.setIfInBounds_toArray, List.set_cons_zero, List.set_cons_succ] at hS ⊢
      refine takeG1 (i := 7) (v := ?_) rfl (by kernel_rfl) (by kernel_rfl) (by kernel_rfl) (by kernel_rfl) (by kernel_rfl) (by kernel_rfl) (fun _ _ _ h => h) (Or.inl ⟨by rfl, ?_⟩) hS (fun hT => ?_)
      rotate_left
      · intro w hC; (try dsimp only at hC); go_simp; try with_reducible rfl
      clear hS
      have hS := hT
      clear hT
      simp only [Act.put, List.setIfInBounds_toArray, List.set_cons_zero, List.set_cons_succ] at hS ⊢
      refine takeG (i := 8) (v := ?_) rfl (by kernel_rfl) (by kernel_rfl) (by kernel_rfl) (by kernel_rfl) (fun _ _ _ h => h) (Or.inl ⟨by rfl, ?_⟩) hS (fun hT => ?_)
      rotate_left
      · intro w hC; (try dsimp only at hC); go_simp; try with_reducible rfl
      clear hS
      have hS := hT
      clear hT
      simp only [Act.put, List.setIfInBounds_toArray, List.set_cons_zero, List.set_cons_succ] at hS ⊢
      refine takeG (i := 9) (v := ?_) rfl (by kernel_rfl) (by kernel_rfl) (by kernel_rfl) (by kernel_rfl) (fun _ _ _ h => h) (Or.inl ⟨by rfl, ?_⟩) hS (fun hT => ?_)
      rotate_left
      · intro w hC; (try dsimp only at hC); go_simp; try with_reducible rfl
      clear hS
      have hS := hT
      clear hT
      simp only [Act.put, List.setIfInBounds_toArray, List.set_cons_zero, List.set_cons_succ] at hS ⊢
      refine takeG (i := 10) (v := ?_) rfl (by kernel_rfl) (by kernel_rfl) (by kernel_rfl) (by kernel_rfl) (fun _ _ _ h => h) (Or.inl ⟨by rfl, ?_⟩) hS (fun hT => ?_)
      rotate_left
      · intro w hC; (try dsimp only at hC); go_simp; try with_reducible rfl
      clear hS
      have hS := hT
      clear hT
      simp only [Act.put, List.setIfInBounds_toArray, List.set_cons_zero, List.set_cons_succ] at hS ⊢
      refine takeG1 (i := 11) (v := ?_) rfl (by kernel_rfl) (by kernel_rfl) (by kernel_rfl) (by kernel_rfl) (by kernel_rfl) (by kernel_rfl) (fun _ _ _ h => h) (Or.inl ⟨by rfl, ?_⟩) hS (fun hT => ?_)
      rotate_left
      · intro w hC; (try dsimp only at hC); go_simp; try with_reducible rfl
      clear hS
      have hS := hT
      clear hT
      simp only [Act.put, List.setIfInBounds_toArray, List.set_cons_zero, List.set_cons_succ] at hS ⊢
      refine takeG (i := 2) (v := ?_) rfl (by kernel_rfl) (by kernel_rfl) (by kernel_rfl) (by kernel_rfl) (fun _ _ _ h => h) (Or.inl ⟨by rfl, ?_⟩) hS (fun hT => ?_)
      rotate_left
      · intro w hC; (try dsimp only at hC); go_simp; try with_reducible rfl
      clear hS
      have hS := hT
      clear hT
      simp only [Act.put, List.setIfInBounds_toArray, List.set_cons_zero, List.set_cons_succ] at hS ⊢
      refine takeG (i := 3) (v := ?_) rfl (by kernel_rfl) (by kernel_rfl) (by kernel_rfl) (by kernel_rfl) (fun _ _ _ h => h) (Or.inl ⟨by rfl, ?_⟩) hS (fun hT => ?_)
      rotate_left
      · intro w hC; (try dsimp only at hC); go_simp; try with_reducible rfl
      clear hS
      have hS := hT
      clear hT
      simp only [Act.put, List.setIfInBounds_toArray, List.set_cons_zero, List.set_cons_succ] at hS ⊢
      refine takeG (i := 12) (v := ?_) rfl (by kernel_rfl) (by kernel_rfl) (by kernel_rfl) (by kernel_rfl) (fun _ _ _ h => h) (Or.inl ⟨by rfl, ?_⟩) hS (fun hT => ?_)
      rotate_left
      · intro w hC; (try dsimp only at hC); go_simp; try with_reducible rfl
      clear hS
      have hS := hT
      clear hT
      simp only [Act.put, List.setIfInBounds_toArray, List.set_cons_zero, List.set_cons_succ] at hS ⊢
      refine oneG (i := 13) (by kernel_rfl) rfl (fun K hK => ?_)
      go_simp
      refine hK.out _ _ ⟨?_, fun hu => ?_⟩ (fun hT => ?_)
      · trivial
      · exact absurd hu (by decide)
      clear hS
      have hS := hT
      clear hT
      simp only [List.setIfInBounds_toArray, List.set_cons_zero, List.set_cons_succ] at hS ⊢
      clear hK K
      refine takeG (i := 14) (v := ?_) rfl (by kernel_rfl) (by kernel_rfl) (by kernel_rfl) (by kernel_rfl) (fun _ _ _ h => h) (Or.inl ⟨by rfl, ?_⟩) hS (fun hT => ?_)
      rotate_left
      · intro w hC; (try dsimp only at hC); go_simp; try with_reducible rfl
      clear hS
      have hS := hT
      clear hT
      simp only [Act.put, List.setIfInBounds_toArray, List.set_cons_zero, List.set_cons_succ] at hS ⊢
      refine oneG (i := 15) (by kernel_rfl) rfl (fun K hK => ?_)
      go_simp
      refine hK.out _ _ ⟨?_, fun hu => ?_⟩ (fun hT => ?_)
      · trivial
      · exact absurd hu (by decide)
      clear hS
      have hS := hT
      clear hT
      simp only [List.setIfInBounds_toArray, List.set_cons_zero, List.set_cons_succ] at hS ⊢
      clear hK K
      refine wpAnyG_done (by kernel_rfl) ?_ _
      clear hS
      go_wp2_with fail
      go_roundw
      case rel =>
        refine ⟨k + 1, (M.set k (y1, y2)).set m (x1, x2), by have := HMN.out; omega, by go_num, by have := HMM.out; go_num, HTS, ?_, ?_⟩
        · rw [← cr_set, ← cr_set]
          exact Lib.hid ((((HS.out.set (k * 2) _).set (k * 2 + 1) _).set (m * 2) _).set (m * 2 + 1) _)
        · exact Lib.hid (by
            rw [HO2.out]
            have := HW.out
            rw [HO2.out] at this
            repeat (first | exact this | refine Touch.drewN ?_ _ | refine Touch.drew ?_ | refine Touch.set ?_ (.inl (by simp)) _))
      case measure => simp [intOf]; omega
    · have hge : ¬ (k : Int) < (n : Int) - 1 - (k : Int) := hlt
      have HR := Lib.hid (HT.out.done (by omega))
      go_wp2_with fail
      go_end0
      refine ⟨rfl, ?_, HW.out⟩
      rw [← HR.out]
      exact HS.out
end Go.Proofs.Ytmidlielcioinaa
