/- The two tables as blocks of the heap, and the contracts of the functions that only ask them. Conditions: the sizes are no more than 2^40. -/
import Derived.Test.YtfkmcbkhodppmaaP
import Derived.Deep.CutBlock
import Derived.Deep.DeepCutAuto
import Derived.Deep.CutRange
import Derived.Deep.RegionHeld3
import Derived.IntWalk
namespace Go.Proofs.Ytfkmcbkhodppmaa
open Go.RowKit Go.Maps

section
variable {w w' : World} {b n : Nat}
theorem Touch.turned (h : w.mapTurned w' b) : Touch [b] w w' := Touch.of_grown (row := some b) h.grown
theorem IsW.touch {ks : List Nat} {f : Fld → Option Int} (h : IsW w b n f) (hk : Touch ks w w') (hn : b ∉ ks) : IsW w' b n f := by
  have hl := h.lt
  obtain ⟨D, ⟨es, clock, h0, h1⟩, h2, h3⟩ := h
  exact ⟨D, ⟨es, clock, (hk.block b hl hn).trans h0, h1⟩, h2, h3⟩
theorem IsN.touch {ks : List Nat} {f : ByteArray → Option Int} (h : IsN w b n f) (hk : Touch ks w w') (hn : b ∉ ks) : IsN w' b n f := by
  have hl := h.lt
  obtain ⟨D, ⟨es, clock, h0, h1⟩, h2, h3⟩ := h
  exact ⟨D, ⟨es, clock, (hk.block b hl hn).trans h0, h1⟩, h2, h3⟩
theorem IsW.look1 {f : Fld → Option Int} (h : IsW w b n f) (x : Fld) (hx : OkW x) :
    (Instr.lookup 53 (.map (some b)) (keyW x) false).run Try.prog w = .ok (.int .u64 ((f x).getD 0)) w := by
  obtain ⟨D, h1, h2, h3⟩ := h
  obtain ⟨l, hl⟩ := exW x hx
  obtain ⟨c, hr, hat, _⟩ := h1.lookup_int law26 und53 Try.underlying34 (zero34 w) hl
  rw [hr]
  cases hf : f x with
  | none =>
    have h4 : Maps.has D l = false := by rw [(h3 x l hl).1, hf]; rfl
    rw [atKey_of_not_has h4] at hat
    simp at hat
    simp [hat]
  | some v =>
    rw [(h3 x l hl).2 v hf] at hat
    simp at hat
    simp [hat]
theorem IsN.look1 {f : ByteArray → Option Int} (h : IsN w b n f) (x : ByteArray) (hx : OkN x) :
    (Instr.lookup 54 (.map (some b)) (.string x) false).run Try.prog w = .ok (.int .u64 ((f x).getD 0)) w := by
  obtain ⟨D, h1, h2, h3⟩ := h
  obtain ⟨l, hl⟩ := exN x hx
  obtain ⟨c, hr, hat, _⟩ := h1.lookup_int law9 und54 Try.underlying34 (zero34 w) hl
  simp only [keyN] at hr
  rw [hr]
  cases hf : f x with
  | none =>
    have h4 : Maps.has D l = false := by rw [(h3 x l hl).1, hf]; rfl
    rw [atKey_of_not_has h4] at hat
    simp at hat
    simp [hat]
  | some v =>
    rw [(h3 x l hl).2 v hf] at hat
    simp at hat
    simp [hat]
end

/-- The program's table: the block t; F: all its blocks. -/
def IsTab (w : World) (t : Nat) (F : List Nat) (s : TS) (cap : Nat) : Prop :=
  ∃ (a : Option Addr) (c bw bn : Nat), IsBlk w t [.slice a s.L.length c, .int .u64 s.cnt, .int .i64 cap, .int .i64 (szL s.L), .map (some bw), .map (some bn)] 56 ∧
    Sl w 26 2 (.slice a s.L.length c) s.L.length (cf s.L) ∧ IsW w bw s.cnt (whole s.L s.first) ∧ IsN w bn s.cnt (names s.L s.first) ∧
    F = t :: bw :: bn :: own (.slice a s.L.length c) ∧ (t ≠ bw ∧ t ≠ bn ∧ bw ≠ bn ∧ t ∉ own (.slice a s.L.length c) ∧ bw ∉ own (.slice a s.L.length c) ∧ bn ∉ own (.slice a s.L.length c)) ∧ s.L.length ≤ s.cnt
/-- The document's table. -/
def IsRef (w : World) (t : Nat) (F : List Nat) (s : TS) (cap : Nat) : Prop :=
  ∃ (a : Option Addr) (c : Nat), IsBlk w t [.slice a s.L.length c, .int .i64 cap, .int .u64 s.cnt] 58 ∧ Sl w 26 2 (.slice a s.L.length c) s.L.length (cf s.L) ∧
    F = t :: own (.slice a s.L.length c) ∧ t ∉ own (.slice a s.L.length c) ∧ s.L.length ≤ s.cnt
section
variable {w w' : World} {t cap : Nat} {F ks : List Nat} {s : TS}
theorem IsTab.touch (h : IsTab w t F s cap) (hk : Touch ks w w') (hn : ∀ g ∈ F, g ∉ ks) : IsTab w' t F s cap := by
  obtain ⟨a, c, bw, bn, h1, h2, h3, h4, rfl, h5, h6⟩ := h
  exact ⟨a, c, bw, bn, h1.touch hk (hn _ (by simp)), h2.touch hk (fun g hg => hn g (by simp [hg])), h3.touch hk (hn _ (by simp)), h4.touch hk (hn _ (by simp)), rfl, h5, h6⟩
theorem IsRef.touch (h : IsRef w t F s cap) (hk : Touch ks w w') (hn : ∀ g ∈ F, g ∉ ks) : IsRef w' t F s cap := by
  obtain ⟨a, c, h1, h2, rfl, h5, h6⟩ := h
  exact ⟨a, c, h1.touch hk (hn _ (by simp)), h2.touch hk (fun g hg => hn g (by simp [hg])), rfl, h5, h6⟩
theorem IsTab.keep (h : IsTab w t F s cap) (hk : Touch [] w w') : IsTab w' t F s cap := h.touch hk (by simp)
theorem IsRef.keep (h : IsRef w t F s cap) (hk : Touch [] w w') : IsRef w' t F s cap := h.touch hk (by simp)
theorem IsTab.lt (h : IsTab w t F s cap) : ∀ g ∈ F, g < w.heap.size := by
  obtain ⟨a, c, bw, bn, h1, h2, h3, h4, rfl, h5, h6⟩ := h
  intro g hg
  simp only [List.mem_cons] at hg
  rcases hg with rfl | rfl | rfl | hg
  · exact h1.lt
  · exact h3.lt
  · exact h4.lt
  · exact h2.lt g hg
theorem IsRef.lt (h : IsRef w t F s cap) : ∀ g ∈ F, g < w.heap.size := by
  obtain ⟨a, c, h1, h2, rfl, h5, h6⟩ := h
  intro g hg
  simp only [List.mem_cons] at hg
  rcases hg with rfl | hg
  · exact h1.lt
  · exact h2.lt g hg
end

/-- A field that was asked for. -/
def fopt (o : Option Fld) : Value := .tuple #[keyW (o.getD (ByteArray.empty, ByteArray.empty)), .bool o.isSome]

section
variable {w : World} {t cap : Nat} {F : List Nat} {s : TS}
theorem first_any (h : IsTab w t F s cap) (hc : s.cnt ≤ 1099511627776) :
    Calls Try.prog 32 #[.pointer (some ⟨t, 0, none⟩)] w fun e w' => e = .returned (.int .u64 s.first) ∧ ∃ n, w' = w.drewN n := by
  obtain ⟨a, c, bw, bn, h1, h2, h3, h4, rfl, h5, h6⟩ := h
  have c0 := h1.cell 0
  have c1 := h1.cell 1
  have hl := h1.lt
  simp only [List.getElem?_cons_zero, List.getElem?_cons_succ] at c0 c1
  have e1 : ((s.first : Nat) : Int) = (s.cnt : Int) - (s.L.length : Int) := by unfold TS.first; omega
  have E1 := Lib.hid e1
  have hb1 : (s.L.length : Int) ≤ (s.cnt : Int) := by omega
  clear h1 h2 h3 h4 h5 e1
  go_enter Try.func32, Try.ntmps32
  go_wp2_with fail
  go_quiet (fail)
  go_wp2_with fail
  go_ret
  exact ⟨ret_i E1.out.symm, _, rfl⟩
theorem refFirst_any (h : IsRef w t F s cap) (hc : s.cnt ≤ 1099511627776) :
    Calls Try.prog 29 #[.pointer (some ⟨t, 0, none⟩)] w fun e w' => e = .returned (.int .u64 s.first) ∧ ∃ n, w' = w.drewN n := by
  obtain ⟨a, c, h1, h2, rfl, h5, h6⟩ := h
  have c0 := h1.cell 0
  have c1 := h1.cell 2
  have hl := h1.lt
  simp only [List.getElem?_cons_zero, List.getElem?_cons_succ] at c0 c1
  have e1 : ((s.first : Nat) : Int) = (s.cnt : Int) - (s.L.length : Int) := by unfold TS.first; omega
  have E1 := Lib.hid e1
  have hb1 : (s.L.length : Int) ≤ (s.cnt : Int) := by omega
  clear h1 h2 h5 e1
  go_enter Try.func29, Try.ntmps29
  go_wp2_with fail
  go_quiet (fail)
  go_wp2_with fail
  go_ret
  exact ⟨ret_i E1.out.symm, _, rfl⟩
theorem len_any (h : IsTab w t F s cap) : Calls Try.prog 14 #[.pointer (some ⟨t, 0, none⟩)] w fun e w' => e = .returned (.int .i64 s.L.length) ∧ w = w' := by
  obtain ⟨a, c, bw, bn, h1, h2, h3, h4, rfl, h5, h6⟩ := h
  have c0 := h1.cell 0
  simp only [List.getElem?_cons_zero] at c0
  clear h1 h2 h3 h4 h5
  go_enter Try.func14, Try.ntmps14
  go_wp2_with fail
  go_ret
  exact ⟨rfl, rfl⟩
theorem tabSize_any (h : IsTab w t F s cap) : Calls Try.prog 15 #[.pointer (some ⟨t, 0, none⟩)] w fun e w' => e = .returned (.int .i64 (szL s.L)) ∧ w = w' := by
  obtain ⟨a, c, bw, bn, h1, h2, h3, h4, rfl, h5, h6⟩ := h
  have c0 := h1.cell 3
  simp only [List.getElem?_cons_zero, List.getElem?_cons_succ] at c0
  clear h1 h2 h3 h4 h5
  go_enter Try.func15, Try.ntmps15
  go_wp2_with fail
  go_ret
  exact ⟨rfl, rfl⟩
theorem count_any (h : IsTab w t F s cap) : Calls Try.prog 16 #[.pointer (some ⟨t, 0, none⟩)] w fun e w' => e = .returned (.int .u64 s.cnt) ∧ w = w' := by
  obtain ⟨a, c, bw, bn, h1, h2, h3, h4, rfl, h5, h6⟩ := h
  have c0 := h1.cell 1
  simp only [List.getElem?_cons_zero, List.getElem?_cons_succ] at c0
  clear h1 h2 h3 h4 h5
  go_enter Try.func16, Try.ntmps16
  go_wp2_with fail
  go_ret
  exact ⟨rfl, rfl⟩
theorem cap_any (h : IsTab w t F s cap) : Calls Try.prog 18 #[.pointer (some ⟨t, 0, none⟩)] w fun e w' => e = .returned (.int .i64 cap) ∧ w = w' := by
  obtain ⟨a, c, bw, bn, h1, h2, h3, h4, rfl, h5, h6⟩ := h
  have c0 := h1.cell 2
  simp only [List.getElem?_cons_zero, List.getElem?_cons_succ] at c0
  clear h1 h2 h3 h4 h5
  go_enter Try.func18, Try.ntmps18
  go_wp2_with fail
  go_ret
  exact ⟨rfl, rfl⟩
end
end Go.Proofs.Ytfkmcbkhodppmaa
