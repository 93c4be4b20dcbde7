/- The walk of the statement on what is found in fields, all cases joined. Conditions: the lists' cells are where the slices say. -/
import Derived.Test.YtnakdlneennofaaI
namespace Go.Proofs.Ytnakdlneennofaa
open Go.RowKit

theorem finds_nil (a2 : Option Addr) (cap2 : Nat) (ys : List Fld) (name : ByteArray) (w : World) (hg : IsF w a2 ys)
    (hm2 : ∀ x ∈ ys, x.1.size ≤ 140737488355328 ∧ x.2.size ≤ 140737488355328) (hy : lightF ys = true) :
    Calls Try.prog 5 #[.slice none 0 0, .slice a2 ys.length cap2, .string name, .bool true] w fun e w' => e = .returned (.bool true) ∧ Below w.heap.size w w' := by
  have hx : lightF [] = true := rfl
  have L1 := fun w => light_any none 0 [] w (.inl rfl) (by simp)
  rw [hx] at L1
  have L2 := fun w => size_any none 0 [] w (by simp) (.inl rfl) (by decide)
  have L3 := fun w => sizeR_any none 0 [] w (by simp) (.inl rfl) (by decide)
  have L4 := fun w => find_any none 0 [] name w (by simp) (.inl rfl)
  have L5 := fun w => findR_any none 0 [] name w (by simp) (.inl rfl)
  have L6 := fun w => same_any none none 0 0 [] [] w (by simp) (by simp) (.inl rfl) (.inl rfl)
  have L7 := fun w => fields_any none none 0 0 [] [] w (by simp) (by simp) (.inl rfl) (.inl rfl)
  have L8 := fun w a b c d => strings_any a b c d [] [] w (by simp) (by simp) (.inl rfl) (.inl rfl)
  rw [show sizeF [] = 0 from rfl] at L2 L3
  simp only [List.length_nil, decide_true, show findF [] name = [] from rfl] at L1 L2 L3 L4 L5 L6 L7 L8
  have HL1 := Lib.hid L1
  have HL2 := Lib.hid L2
  have HL3 := Lib.hid L3
  have HL4 := Lib.hid L4
  have HL5 := Lib.hid L5
  have HL6 := Lib.hid L6
  have HL7 := Lib.hid L7
  have HL8 := Lib.hid L8
  have HG := Lib.hid hg
  have HM := Lib.hid hm2
  obtain ⟨i0, hi, hz0, hz1, hz2⟩ := info_parts info32
  clear L1 L2 L3 L4 L5 L6 L7 L8 hg hm2 hx
  go_enter Try.func5, Try.ntmps5
  go_wp2_with fail
  refine (known_any _).mono ?_
  rintro e w1 ⟨rfl, hb⟩
  have HG1 := Lib.hid (HG.out.below hb)
  have HB1 := Lib.hid hb
  clear hb
  go_wp2_with fail
  refine (HL1.out _).mono ?_
  rintro e w2 ⟨rfl, hb⟩
  have HG2 := Lib.hid (HG1.out.below hb)
  have HB2 := Lib.hid (HB1.out.trans (hb.mono HB1.out.size))
  clear hb
  go_wp2_with fail
  refine (light_any _ _ _ _ HG2.out HM.out).mono ?_
  rintro e w3 ⟨rfl, hb⟩
  have HB3 := Lib.hid (HB2.out.trans (hb.mono HB2.out.size))
  clear hb
  go_wp2_with (at_builtin; refine wpList_append_own_none rfl (.const (.slice none 0 0)) (.tmp 22) 28 rfl w3.heap.size 32 i0 2 Try.underlying28 hi (.slice none 0 0) 0 [] rfl (World.ownsRow_nil _ _ _ _) rfl ?_)
  refine wp_loop_rounds 1 ?_
  rw [rounds_succ]
  go_wp2_with fail
  refine (HL2.out _).mono ?_
  rintro e w4 ⟨rfl, hb⟩
  have HB4 := Lib.hid (HB3.out.trans (hb.mono HB3.out.size))
  clear hb
  go_wp2_with fail
  refine (HL3.out _).mono ?_
  rintro e w5 ⟨rfl, hb⟩
  have HB5 := Lib.hid (HB4.out.trans (hb.mono HB4.out.size))
  clear hb
  go_wp2_with fail
  refine (HL4.out _).mono ?_
  rintro e w6 ⟨f1, c1, rfl, _, hb⟩
  have HB6 := Lib.hid (HB5.out.trans (hb.mono HB5.out.size))
  clear hb
  go_wp2_with fail
  refine (HL5.out _).mono ?_
  rintro e w7 ⟨f2, c2, rfl, _, hb⟩
  have HB7 := Lib.hid (HB6.out.trans (hb.mono HB6.out.size))
  clear hb
  go_wp2_with fail
  refine (HL8.out _ _ _ _ _).mono ?_
  rintro e w8 ⟨rfl, hb⟩
  have HB8 := Lib.hid (HB7.out.trans (hb.mono HB7.out.size))
  clear hb
  go_wp2_with fail
  refine (HL6.out _).mono ?_
  rintro e w9 ⟨rfl, hb⟩
  have HB9 := Lib.hid (HB8.out.trans (hb.mono HB8.out.size))
  clear hb
  go_wp2_with fail
  refine (HL7.out _).mono ?_
  rintro e w10 ⟨rfl, hb⟩
  have HB10 := Lib.hid (HB9.out.trans (hb.mono HB9.out.size))
  clear hb
  go_wp2_with fail
  refine (HL6.out _).mono ?_
  rintro e w11 ⟨rfl, hb⟩
  have HB11 := Lib.hid (HB10.out.trans (hb.mono HB10.out.size))
  clear hb
  go_wp2_with fail
  go_ret
  exact ⟨rfl, HB11.out⟩

theorem finds_walk (a1 a2 : Option Addr) (cap1 cap2 : Nat) (xs ys : List Fld) (name : ByteArray) (same : Bool) (w : World) (hf : IsF w a1 xs) (hg : IsF w a2 ys) (hn : a1 = none → cap1 = 0)
    (hm1 : ∀ x ∈ xs, x.1.size ≤ 140737488355328 ∧ x.2.size ≤ 140737488355328) (hm2 : ∀ x ∈ ys, x.1.size ≤ 140737488355328 ∧ x.2.size ≤ 140737488355328) :
    Calls Try.prog 5 #[.slice a1 xs.length cap1, .slice a2 ys.length cap2, .string name, .bool same] w fun e w' => e = .returned (.bool true) ∧ Below w.heap.size w w' := by
  cases hx : lightF xs with
  | false => exact finds_dark a1 a2 cap1 cap2 xs ys name same w hf hg hm1 hm2 (.inl hx)
  | true =>
    cases hy : lightF ys with
    | false => exact finds_dark a1 a2 cap1 cap2 xs ys name same w hf hg hm1 hm2 (.inr hy)
    | true =>
      cases same with
      | false => exact finds_two a1 a2 cap1 cap2 xs ys name w hf hg hm1 hm2 hx hy
      | true =>
        cases ha : a1 with
        | some ad =>
          subst ha
          exact finds_same _ a2 cap1 cap2 xs ys name w hf hg ad rfl hm1 hm2 hx hy
        | none =>
          subst ha
          obtain rfl : xs = [] := by
            rcases hf with h | ⟨b, off, h, _⟩
            · exact h
            · cases h
          rw [hn rfl]
          exact finds_nil a2 cap2 ys name w hg hm2 hy
end Go.Proofs.Ytnakdlneennofaa
