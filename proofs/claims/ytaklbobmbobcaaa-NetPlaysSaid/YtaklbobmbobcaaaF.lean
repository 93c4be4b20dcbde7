/- The contract of a net's Double, and the walk of the example. Conditions: none of their own. -/
import Derived.Test.YtaklbobmbobcaaaE
namespace Go.Proofs.Ytaklbobmbobcaaa
open Go.RowKit

theorem netDouble_no (w : World) (q : Nat) (K F : List Nat) (L : List (List UInt8)) (i : Int) (h : IsNet w q K F L) (hb : hasB i L.length = false) :
    Calls Try.prog 15 #[.pointer (some ⟨q, 0, none⟩), .int .i64 i] w fun e w' => e = .returned (.bool false) ∧ w = w' := by
  have H := Lib.hid h
  have HB := Lib.hid hb
  clear h hb
  go_enter Try.func15, Try.ntmps15
  go_wp2_with fail
  refine (has_no _ q K F L i H.out HB.out).mono ?_
  rintro e w1 ⟨rfl, rfl⟩
  go_wp2_with fail
  go_ret
  exact ⟨rfl, rfl⟩
theorem netDouble_yes (w : World) (q : Nat) (K F : List Nat) (L : List (List UInt8)) (k : Nat) (h : IsNet w q K F L) (hk : k < L.length) (hL : L.length + 1 ≤ 1099511627776) (hb : (L.getD k []).length ≤ 1099511627776) :
    Calls Try.prog 15 #[.pointer (some ⟨q, 0, none⟩), .int .i64 (k : Int)] w fun e w' => e = .returned (.bool true) ∧ ∃ K' F', IsNet w' q K' F' (L ++ [L.getD k []]) ∧ Touch K w w' ∧ Grow K K' w ∧ Grow F F' w := by
  have H := Lib.hid h
  have HB := Lib.hid (show hasB (k : Int) L.length = true from by simp [hasB, hk])
  obtain ⟨v, its, h1, h2, h3, h4, rfl, rfl, rfl⟩ := h
  rw [List.length_map] at hk hL
  rcases h2.cases with ⟨rfl, h0, _⟩ | ⟨g, off, cap, rfl, hnc, _, hlt, hcell, _⟩
  · omega
  have hcap : 0 < cap := by omega
  obtain ⟨x, hx⟩ : ∃ x, its[k]? = some x := ⟨_, List.getElem?_eq_getElem hk⟩
  obtain ⟨u, b⟩ := x
  have hmem : (u, b) ∈ its := List.mem_of_getElem? hx
  have hgd : (its.map (·.2)).getD k [] = b := by simp [hx]
  rw [hgd] at hb ⊢
  obtain ⟨a, c, hu, _⟩ := (h4 _ hmem).1.form
  simp at hu
  subst hu
  have c1 := h1.cell 0
  simp only [List.getElem?_cons_zero] at c1
  have c2 : w.cell? ⟨g, off + k, none⟩ = some (.slice a b.length c) := by
    rw [hcell k (by omega)]
    simp [hx]
  have HU := Lib.hid (h4 _ hmem)
  have HL := Lib.hid hL
  have HBL := Lib.hid hb
  clear h1 h2 h3 h4 hcell hx hmem hlt hL hb hgd
  go_enter Try.func15, Try.ntmps15
  go_wp2_with fail
  refine (has_yes _ q _ _ _ _ H.out HB.out).mono ?_
  rintro e w1 ⟨rfl, rfl⟩
  go_wp2_with fail
  have HA := Lib.hid (H.out.touch ((Touch.refl [] w).alloc (.cells #[.slice a b.length c] 26)) (by simp))
  have hf : w.heap.size ∉ (q :: own (Value.slice (some ⟨g, off, none⟩) its.length cap)) := fun hm => by have := H.out.lt _ (H.out.sub _ hm); omega
  have HF := Lib.hid hf
  clear hf
  refine (netPush_any _ q _ _ _ _ [(.slice a b.length c, b)] HA.out (one_rd _ _ _) (by have := HF.out; simpa [own] using this) (fun y hy => ?_) (by have := HL.out; simpa using this)).mono ?_
  · simp at hy
    subst hy
    exact ⟨(HU.out.1.touch ((Touch.refl [] w).alloc _) (by simp)).rd, HU.out.2, HBL.out⟩
  rintro e w2 ⟨rfl, K', F', r1, r2, r3, r4⟩
  have R1 := Lib.hid r1
  have R2 := Lib.hid r2
  have R3 := Lib.hid r3
  have R4 := Lib.hid r4
  clear r1 r2 r3 r4
  go_wp2_with fail
  go_ret
  exact ⟨rfl, K', F', R1.out, ((Touch.refl _ w).alloc _).trans R2.out (fun j hj => .inl hj), (Grow.refl _ w).trans R3.out (by simp), (Grow.refl _ w).trans R4.out (by simp)⟩
end Go.Proofs.Ytaklbobmbobcaaa
