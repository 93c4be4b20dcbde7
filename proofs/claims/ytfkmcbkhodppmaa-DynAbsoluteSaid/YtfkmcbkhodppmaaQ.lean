/- The comparison of two fields, and the contracts of Find. Conditions: the sizes are no more than 2^40. -/
import Derived.Test.YtfkmcbkhodppmaaJ
namespace Go.Proofs.Ytfkmcbkhodppmaa
open Go.RowKit Go.Maps
set_option linter.unusedVariables false

theorem fieldsF : ((Try.prog.fieldsOf 26).toList.map fun f => (f.type, f.offset)) = [(9, 0), (9, 1)] := by kernel_rfl
theorem fieldsF' : ((Try.prog.fieldsOf 26).toList.map fun f => (f.name == "_")) = [false, false] := by kernel_rfl
theorem bl_inj (a b : ByteArray) : (a.toList = b.toList) ↔ a = b := by
  constructor
  · intro h
    rw [ByteArray.toList_eq, ByteArray.toList_eq] at h
    obtain ⟨⟨a⟩⟩ := a
    obtain ⟨⟨b⟩⟩ := b
    simp at h
    rw [h]
  · rintro rfl
    rfl
theorem run_eqF (x y : Fld) (w : World) : (Op.equalIn 10000 26 (.agg #[.string x.1, .string x.2]) (.agg #[.string y.1, .string y.2])).run Try.prog w = .ok (decide (x = y)) w := by
  rw [run_equalIn_struct w 9999 26 _ _ (by kernel_rfl) (by kernel_rfl)]
  have h := fieldsF
  have h' := fieldsF'
  generalize (Try.prog.fieldsOf 26).toList = l at h h'
  obtain ⟨a, b, rfl⟩ := two_of l (by simpa using congrArg List.length h)
  simp at h h'
  obtain ⟨⟨h1, h2⟩, h3, h4⟩ := h
  obtain ⟨g1, g2⟩ := h'
  obtain ⟨x1, x2⟩ := x
  obtain ⟨y1, y2⟩ := y
  by_cases e1 : x1 = y1 <;> by_cases e2 : x2 = y2 <;> simp [Op.eqFields, h1, h2, h3, h4, g1, g2, go_sem, bl_inj, e1, e2]

section
variable {w : World} {t cap : Nat} {F : List Nat} {s : TS}
theorem at_any (h : IsTab w t F s cap) (hc : s.cnt ≤ 1099511627776) (a : Int) (ha : 0 ≤ a) (o : Option Fld) (ho : s.at_ a.toNat = o) :
    Calls Try.prog 19 #[.pointer (some ⟨t, 0, none⟩), .int .u64 a] w fun e w' => e = .returned (fopt o) ∧ Touch [] w w' := by
  subst ho
  unfold TS.at_
  by_cases hn : a.toNat < s.first ∨ s.cnt ≤ a.toNat
  · rw [if_pos hn]
    exact at_no h hc a ha (by omega)
  · rw [if_neg hn]
    have hl : a.toNat - s.first < s.L.length := by
      obtain ⟨_, _, _, _, _, _, _, _, _, _, h6⟩ := h
      unfold TS.first at hn ⊢
      omega
    rw [List.getElem?_eq_getElem hl]
    refine at_yes h hc a (by omega) _ ?_
    rw [show (a - (s.first : Int)).toNat = a.toNat - s.first from by omega]
    exact List.getElem?_eq_getElem hl
theorem abs_any (h : IsRef w t F s cap) (hc : s.cnt ≤ 1099511627776) (a : Int) (ha : 0 ≤ a) (o : Option Fld) (ho : s.at_ a.toNat = o) :
    Calls Try.prog 30 #[.pointer (some ⟨t, 0, none⟩), .int .u64 a] w fun e w' => e = .returned (fopt o) ∧ Touch [] w w' := by
  subst ho
  unfold TS.at_
  by_cases hn : a.toNat < s.first ∨ s.cnt ≤ a.toNat
  · rw [if_pos hn]
    exact abs_no h hc a ha (by omega)
  · rw [if_neg hn]
    have hl : a.toNat - s.first < s.L.length := by
      obtain ⟨_, _, _, _, _, _, h6⟩ := h
      unfold TS.first at hn ⊢
      omega
    rw [List.getElem?_eq_getElem hl]
    refine abs_yes h hc a (by omega) _ ?_
    rw [show (a - (s.first : Int)).toNat = a.toNat - s.first from by omega]
    exact List.getElem?_eq_getElem hl
theorem newest_any (h : IsTab w t F s cap) (hc : s.cnt ≤ 1099511627776) (i : Int) (hi : 0 ≤ i) (o : Option Fld) (ho : s.new_ i.toNat = o) :
    Calls Try.prog 22 #[.pointer (some ⟨t, 0, none⟩), .int .u64 i] w fun e w' => e = .returned (fopt o) ∧ Touch [] w w' := by
  subst ho
  unfold TS.new_
  by_cases hn : s.L.length ≤ i.toNat
  · rw [if_pos hn]
    exact newest_no h hc i (by omega)
  · rw [if_neg hn]
    have hl : s.L.length - 1 - i.toNat < s.L.length := by omega
    rw [List.getElem?_eq_getElem hl]
    refine newest_yes h hc i (by omega) _ ?_
    rw [show ((s.L.length : Int) - 1 - i).toNat = s.L.length - 1 - i.toNat from by omega]
    exact List.getElem?_eq_getElem hl
theorem refNewest_any (h : IsRef w t F s cap) (hc : s.cnt ≤ 1099511627776) (i : Int) (hi : 0 ≤ i) (o : Option Fld) (ho : s.new_ i.toNat = o) :
    Calls Try.prog 28 #[.pointer (some ⟨t, 0, none⟩), .int .u64 i] w fun e w' => e = .returned (fopt o) ∧ Touch [] w w' := by
  subst ho
  unfold TS.new_
  by_cases hn : s.L.length ≤ i.toNat
  · rw [if_pos hn]
    exact refNewest_no h hc i (by omega)
  · rw [if_neg hn]
    have hl : s.L.length - 1 - i.toNat < s.L.length := by omega
    rw [List.getElem?_eq_getElem hl]
    refine refNewest_yes h hc i (by omega) _ ?_
    rw [show ((s.L.length : Int) - 1 - i).toNat = s.L.length - 1 - i.toNat from by omega]
    exact List.getElem?_eq_getElem hl
end

def found (r : Int × Bool × Bool) : Value := .tuple #[.int .u64 r.1, .bool r.2.1, .bool r.2.2]
set_option maxHeartbeats 1000000 in
theorem find_any {w : World} {t cap : Nat} {F : List Nat} {s : TS} (h : IsTab w t F s cap) (f : Fld) (hf : OkW f) :
    Calls Try.prog 23 #[.pointer (some ⟨t, 0, none⟩), .agg #[.string f.1, .string f.2]] w fun e w' => e = .returned (found (s.find_ f)) ∧ Touch [] w w' := by
  obtain ⟨a, c, bw, bn, hP, hF, hA, h6⟩ := h.parts
  obtain ⟨f1, f2⟩ := f
  have c4 := hP.1.cell 4
  have c5 := hP.1.cell 5
  have cl := hP.1.lt
  simp only [List.getElem?_cons_zero, List.getElem?_cons_succ] at c4 c5
  have lw : ∀ n, (Instr.lookup 53 (.map (some bw)) (.agg #[.string f1, .string f2]) true).run Try.prog ((w.alloc (.cells #[.string f1, .string f2] 26)).drewN n) = .ok (.tuple #[.int .u64 ((whole s.L s.first (f1, f2)).getD 0), .bool (whole s.L s.first (f1, f2)).isSome]) ((w.alloc (.cells #[.string f1, .string f2] 26)).drewN n) := fun n =>
    (hP.2.2.1.touch (((Touch.refl [] _).alloc _).drewN n) (by simp)).look (f1, f2) hf
  have ln : ∀ n, (Instr.lookup 54 (.map (some bn)) (.string f1) true).run Try.prog ((w.alloc (.cells #[.string f1, .string f2] 26)).drewN n) = .ok (.tuple #[.int .u64 ((names s.L s.first f1).getD 0), .bool (names s.L s.first f1).isSome]) ((w.alloc (.cells #[.string f1, .string f2] 26)).drewN n) := fun n =>
    (hP.2.2.2.touch (((Touch.refl [] _).alloc _).drewN n) (by simp)).look f1 hf.1
  have HT := Lib.hid (fun n => ((Touch.refl [] w).alloc (.cells #[.string f1, .string f2] 26)).drewN n)
  cases hw : whole s.L s.first (f1, f2) with
  | some i =>
    have HFD := Lib.hid (show s.find_ (f1, f2) = (i, true, true) by unfold TS.find_; rw [hw])
    rw [hw] at lw
    clear hw ln hP hF hA h6 h hf
    simp only [Option.getD_some, Option.isSome_some] at lw
    go_enter Try.func23, Try.ntmps23
    go_wp2_with fail
    go_quiet (fail)
    go_wp2_with fail
    go_ret3
    exact ⟨by rw [HFD.out]; rfl, HT.out _⟩
  | none =>
    have HFD := Lib.hid (show s.find_ (f1, f2) = (((names s.L s.first f1).getD 0), (names s.L s.first f1).isSome, false) by
      unfold TS.find_
      rw [hw]
      cases names s.L s.first f1 <;> rfl)
    rw [hw] at lw
    obtain ⟨nv, hnv⟩ : ∃ nv, (names s.L s.first f1).getD 0 = nv := ⟨_, rfl⟩
    obtain ⟨nb, hnb⟩ : ∃ nb, (names s.L s.first f1).isSome = nb := ⟨_, rfl⟩
    rw [hnv, hnb] at HFD ln
    clear hw hnv hnb hP hF hA h6 h hf
    simp only [Option.getD_none, Option.isSome_none] at lw
    go_enter Try.func23, Try.ntmps23
    go_wp2_with fail
    go_quiet (fail)
    go_wp2_with fail
    go_quiet (fail)
    go_wp2_with fail
    go_ret3
    exact ⟨by rw [HFD.out]; rfl, by have := HT.out; first | exact this _ | exact (this _).drewN _⟩
end Go.Proofs.Ytfkmcbkhodppmaa
