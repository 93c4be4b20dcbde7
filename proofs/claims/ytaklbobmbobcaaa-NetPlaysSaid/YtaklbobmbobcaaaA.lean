/- What a pipe holds, and the contracts of its functions. Conditions: no more than 2^40 bytes in all. -/
import Derived.Test.YtaklbobmbobcaaaT
import Derived.Deep.CutBlock
import Derived.Deep.DeepCutAuto
import Derived.Outline
namespace Go.Proofs.Ytaklbobmbobcaaa
open Go.RowKit

/-- The cells of bytes. -/
def cb (l : List UInt8) : List Value := l.map fun b => .int .u8 (b.toNat : Int)
theorem cb_len (l : List UInt8) : (cb l).length = l.length := by simp [cb]
theorem cb_append (l m : List UInt8) : cb (l ++ m) = cb l ++ cb m := by simp [cb]
theorem cb_take (l : List UInt8) (k : Nat) : (cb l).take k = cb (l.take k) := by simp [cb]
theorem cb_drop (l : List UInt8) (k : Nat) : (cb l).drop k = cb (l.drop k) := by simp [cb]
theorem cb_one (l : List UInt8) : ∀ u ∈ cb l, u.oneCell' = true := by
  intro u hu
  simp [cb] at hu
  obtain ⟨b, _, rfl⟩ := hu
  rfl
theorem info5 : (Try.prog.info? 5).map (fun i => (i.zero, i.size, i.bytes)) = some (some (.int .u8 0), 1, 1) := by kernel_rfl

/-- The pipe at block p holds the bytes s; F: its blocks. -/
def IsPipe (w : World) (p : Nat) (F : List Nat) (s : List UInt8) : Prop :=
  ∃ v, IsBlk w p [v] 43 ∧ Sl w 5 1 v s.length (cb s) ∧ p ∉ own v ∧ F = p :: own v
section
variable {w w' : World} {p : Nat} {F ks : List Nat} {s : List UInt8}
theorem IsPipe.touch (h : IsPipe w p F s) (hk : Touch ks w w') (hn : ∀ g ∈ F, g ∉ ks) : IsPipe w' p F s := by
  obtain ⟨v, h1, h2, h3, rfl⟩ := h
  exact ⟨v, h1.touch hk (hn p (by simp)), h2.touch hk (fun g hg => hn g (by simp [hg])), h3, rfl⟩
theorem IsPipe.lt (h : IsPipe w p F s) : ∀ g ∈ F, g < w.heap.size := by
  obtain ⟨v, h1, h2, h3, rfl⟩ := h
  intro g hg
  rcases List.mem_cons.1 hg with rfl | hg
  · exact h1.lt
  · exact h2.lt g hg
theorem IsPipe.mem (h : IsPipe w p F s) : p ∈ F := by
  obtain ⟨v, h1, h2, h3, rfl⟩ := h
  simp
end

theorem newPipe_any (w : World) : Calls Try.prog 7 #[] w fun e w' => e = .returned (.pointer (some ⟨w.heap.size, 0, none⟩)) ∧ IsPipe w' w.heap.size [w.heap.size] [] ∧ Touch [] w w' := by
  go_enter Try.func7, Try.ntmps7
  go_wp2_with fail
  go_ret
  exact ⟨rfl, ⟨.slice none 0 0, IsBlk.new w _ _, Sl.nil _ _ _, by simp, rfl⟩, (Touch.refl _ _).alloc _⟩

theorem len_any (w : World) (p : Nat) (F : List Nat) (s : List UInt8) (h : IsPipe w p F s) :
    Calls Try.prog 10 #[.pointer (some ⟨p, 0, none⟩)] w fun e w' => e = .returned (.int .i64 s.length) ∧ w = w' := by
  obtain ⟨v, h1, h2, h3, rfl⟩ := h
  have c1 := h1.cell 0
  simp only [List.getElem?_cons_zero] at c1
  rcases h2.cases with ⟨rfl, h0, _⟩ | ⟨g, off, cap, rfl, _⟩
  · rw [h0]
    clear h2 h0 h1 h3
    go_enter Try.func10, Try.ntmps10
    go_wp2_with fail
    go_ret
    exact ⟨rfl, rfl⟩
  · clear h2 h1 h3
    go_enter Try.func10, Try.ntmps10
    go_wp2_with fail
    go_ret
    exact ⟨rfl, rfl⟩

theorem pipe_small {n m : Nat} (h : n + m ≤ 1099511627776) : n + m ≤ maxLen := by unfold maxLen; omega
theorem pipe_small2 {n m : Nat} (h : n + m ≤ 1099511627776) : (n + m) * 1 ≤ 140737488355328 := by omega
theorem push_any (w : World) (p : Nat) (F : List Nat) (s b : List UInt8) (x : Value) (h : IsPipe w p F s) (hx : Rd w 1 x b.length (cb b)) (hl : s.length + b.length ≤ 1099511627776) :
    Calls Try.prog 8 #[.pointer (some ⟨p, 0, none⟩), x] w fun e w' => e = .returned (.tuple #[]) ∧ ∃ F', IsPipe w' p F' (s ++ b) ∧ Touch F w w' ∧ ∀ g ∈ F', g ∈ F ∨ w.heap.size ≤ g := by
  obtain ⟨v, h1, h2, h3, rfl⟩ := h
  obtain ⟨i0, hi, hz0, hz1, hz2⟩ := info_parts info5
  have c1 := h1.cell 0
  simp only [List.getElem?_cons_zero] at c1
  have H1 := Lib.hid h1
  have H2 := Lib.hid h2
  have H3 := Lib.hid h3
  have HX := Lib.hid hx
  have HL := Lib.hid hl
  clear h1 h2 h3 hx hl
  go_enter Try.func8, Try.ntmps8
  go_wp2_with (at_builtin; refine wpList_append_sl _ rfl (.tmp 8) (.tmp 9) 26 rfl 5 i0 (.int .u8 0) 1 1 Try.underlying26 hi hz0 hz1 hz2 rfl (by decide) v s.length (cb s) rfl H2.out x b.length (cb b) rfl HX.out (cb_one _) (pipe_small HL.out) (pipe_small2 HL.out) ?_; intro a' c' w1 g1 g2 g3 g4; have I1 := Lib.hid (H1.out.touch g2 H3.out); have d1 := I1.out.cell 0; have d2 := I1.out.frozen 0; have G1 := Lib.hid g1; have G2 := Lib.hid g2; have G3 := Lib.hid g3; clear g1 g2 g3 g4; simp only [List.getElem?_cons_zero] at d1)
  go_end0
  have hp : p ∉ own (.slice a' (s.length + b.length) c') := fun hm => (G3.out p hm).elim H3.out (fun h => by have := H1.out.lt; omega)
  refine ⟨rfl, p :: own (.slice a' (s.length + b.length) c'), ⟨.slice a' (s.length + b.length) c', I1.out.set 0 _, ?_, hp, rfl⟩, ((G2.out.mono (fun j hj => .inl (List.mem_cons_of_mem _ hj))).set (.inl (by simp)) _), ?_⟩
  · have := G1.out.touch ((Touch.refl [p] w1).set (p := ⟨p, 0, none⟩) (.inl (by simp)) (.slice a' (s.length + b.length) c')) (fun g hg hm => by simp at hm; exact hp (hm ▸ hg))
    rw [cb_append, List.length_append]
    exact this
  · intro g hg
    rcases List.mem_cons.1 hg with rfl | hg
    · exact .inl (by simp)
    · exact (G3.out g hg).imp (List.mem_cons_of_mem _) id
end Go.Proofs.Ytaklbobmbobcaaa
