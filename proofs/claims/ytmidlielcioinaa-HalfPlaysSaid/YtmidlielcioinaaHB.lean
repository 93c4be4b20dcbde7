/- The document's half az blocks of the heap, and the contracts of its smaller methods. Conditions: the half is in order. -/
import Derived.Test.YtmidlielcioinaaHA
import Derived.Test.YtmidlielcioinaaL
namespace Go.Proofs.Ytmidlielcioinaa
open Go.RowKit

/-- The document's half is in order. -/
structure Hlf.Ok (η : Hlf) : Prop where
  s : η.s.length = η.b.length
  len : η.b.length ≤ 50000
  max : η.max ≤ 4611686018427387903
  fin : η.finS ≤ 3
  lt : ∀ x ∈ η.s, x < 4
theorem halfOk {σ : Snd} (h : σ.Ok) : (halfOf σ).Ok := ⟨stL_len σ, h.len, h.max, h.fin, fun x hx => by
  obtain ⟨i, _, rfl⟩ := List.mem_map.1 (show x ∈ (List.range σ.b.length).map (code σ) from hx)
  exact code_lt σ i⟩
def hcells (η : Hlf) (ab az : Option Addr) (cb cs : Nat) : List Value := [.int .u64 (η.max : Int), .slice ab η.b.length cb, .slice az η.s.length cs, .bool η.fin, .int .u8 (η.finS : Int), .bool η.gone, .bool η.began]
/-- Block p is the document's half η; F: all its blocks. -/
def IsHlf (w : World) (p : Nat) (F : List Nat) (η : Hlf) : Prop :=
  ∃ (ab az : Option Addr) (cb cs : Nat), IsBlk w p (hcells η ab az cb cs) 68 ∧ Sl w 5 1 (.slice ab η.b.length cb) η.b.length (bs η.b) ∧ Sl w 5 1 (.slice az η.s.length cs) η.s.length (bs η.s) ∧
    F = p :: (own (.slice ab η.b.length cb) ++ own (.slice az η.s.length cs)) ∧ p ∉ own (.slice ab η.b.length cb) ∧ p ∉ own (.slice az η.s.length cs) ∧ (∀ g ∈ own (.slice ab η.b.length cb), g ∉ own (.slice az η.s.length cs)) ∧ η.Ok
def StepH (w : World) (p : Nat) (F : List Nat) (η : Hlf) (w' : World) : Prop := ∃ F', IsHlf w' p F' η ∧ Touch F w w' ∧ ∀ g ∈ F', g ∈ F ∨ w.heap.size ≤ g
section
variable {w w' : World} {p : Nat} {F ks : List Nat} {η : Hlf}
theorem IsHlf.touch (h : IsHlf w p F η) (hk : Touch ks w w') (hn : ∀ g ∈ F, g ∉ ks) : IsHlf w' p F η := by
  obtain ⟨ab, az, cb, cs, h1, h2, h3, rfl, h5⟩ := h
  exact ⟨ab, az, cb, cs, h1.touch hk (hn _ (by simp)), h2.touch hk (fun g hg => hn g (by simp [hg])), h3.touch hk (fun g hg => hn g (by simp [hg])), rfl, h5⟩
theorem IsHlf.keep (h : IsHlf w p F η) (hk : Touch [] w w') : IsHlf w' p F η := h.touch hk (by simp)
theorem IsHlf.lt (h : IsHlf w p F η) : ∀ g ∈ F, g < w.heap.size := by
  obtain ⟨ab, az, cb, cs, h1, h2, h3, rfl, h5⟩ := h
  intro g hg
  simp only [List.mem_cons, List.mem_append] at hg
  rcases hg with rfl | hg | hg
  · exact h1.lt
  · exact h2.lt g hg
  · exact h3.lt g hg
theorem IsHlf.ok (h : IsHlf w p F η) : η.Ok := by
  obtain ⟨ab, az, cb, cs, _, _, _, _, _, _, _, h8⟩ := h
  exact h8
theorem StepH.same (h : IsHlf w p F η) (hk : Touch [] w w') : StepH w p F η w' := ⟨F, h.keep hk, hk.mono (by simp), fun g hg => .inl hg⟩
theorem StepH.keep {w2 : World} (h : StepH w p F η w') (hk : Touch [] w' w2) : StepH w p F η w2 := by
  obtain ⟨F', h1, h2, h3⟩ := h
  exact ⟨F', h1.keep hk, h2.trans hk (by simp), h3⟩
end
/-- Only the head's own cells, and the cells of s, are turned. -/
theorem IsHlf.head {w w' : World} {p : Nat} {η θ : Hlf} {ab az : Option Addr} {cb cs : Nat} (h2 : Sl w 5 1 (.slice ab η.b.length cb) η.b.length (bs η.b)) (h3 : Sl w' 5 1 (.slice az θ.s.length cs) θ.s.length (bs θ.s))
    (d1 : p ∉ own (.slice ab η.b.length cb)) (d2 : p ∉ own (.slice az η.s.length cs)) (d3 : ∀ g ∈ own (.slice ab η.b.length cb), g ∉ own (.slice az η.s.length cs))
    (hp : IsBlk w' p (hcells θ ab az cb cs) 68) (hT : Touch (p :: own (.slice az η.s.length cs)) w w') (e1 : θ.b = η.b) (e2 : θ.s.length = η.s.length) (hok : θ.Ok) :
    StepH w p (p :: (own (.slice ab η.b.length cb) ++ own (.slice az η.s.length cs))) θ w' := by
  refine ⟨_, ⟨ab, az, cb, cs, hp, ?_, h3, rfl, ?_, ?_, ?_, hok⟩, hT.mono (fun g hg => .inl (by simp only [List.mem_cons, List.mem_append] at hg ⊢; exact hg.elim .inl (fun h => .inr (.inr h)))), fun g hg => .inl ?_⟩
  · rw [e1]
    exact h2.touch hT (fun g hg hm => by
      rcases List.mem_cons.1 hm with rfl | hm
      · exact d1 hg
      · exact d3 g hg hm)
  · rw [e1]; exact d1
  · rw [e2]; exact d2
  · rw [e1, e2]; exact d3
  · rw [e1, e2] at hg; exact hg

theorem newHalf_any (w : World) (n : Nat) : Calls Try.prog 20 #[.int .u64 (n : Int)] w fun e w' => ∃ p F, e = .returned (.pointer (some ⟨p, 0, none⟩)) ∧ IsHlf w' p F (halfOf (snd0 n)) ∧ Touch [] w w' ∧ ∀ g ∈ F, w.heap.size ≤ g := by
  obtain ⟨m, hm⟩ : ∃ m, m = min n mx := ⟨_, rfl⟩
  have HM : Hid (min (n : Int) 4611686018427387903 = (m : Int)) := Lib.hid (by rw [hm]; unfold mx; omega)
  have HMM := Lib.hid hm
  clear hm
  go_enter Try.func20, Try.ntmps20
  go_wp2_with fail
  rw [HM.out]
  go_ret
  refine ⟨w.heap.size, [w.heap.size], rfl, ⟨none, none, 0, 0, ?_, ?_, ?_, ?_, ?_, ?_, ?_, ?_⟩, ?_, ?_⟩
  · have := IsBlk.new w (hcells (halfOf (snd0 n)) none none 0 0) 68
    rw [HMM.out]
    exact this
  · exact Sl.nil _ _ _
  · exact Sl.nil _ _ _
  · simp [halfOf, snd0, stL]
  · simp [halfOf, snd0, stL]
  · simp [halfOf, snd0, stL]
  · simp [halfOf, snd0, stL]
  · exact halfOk ⟨V.nil 0, V.nil 0, by simp [snd0], by simp [snd0], by simp [snd0], by simp [snd0], by show min n mx ≤ _; unfold mx; omega, by simp [snd0], by simp [snd0]⟩
  · exact (Touch.refl _ _).alloc _
  · intro g hg
    simp at hg
    omega

theorem hgrow_any (w : World) (p : Nat) (F : List Nat) (η : Hlf) (n : Nat) (h : IsHlf w p F η) :
    Calls Try.prog 25 #[.pointer (some ⟨p, 0, none⟩), .int .u64 (n : Int)] w fun e w' => e = .returned (.tuple #[]) ∧ StepH w p F { η with max := max η.max (min n mx) } w' := by
  obtain ⟨ab, az, cb, cs, h1, h2, h3, rfl, d1, d2, d3, hok⟩ := h
  have c0 := h1.cell 0
  have f0 := h1.frozen 0
  have hl := h1.lt
  simp only [hcells, List.getElem?_cons_zero] at c0
  obtain ⟨m, hm⟩ : ∃ m, m = max η.max (min n mx) := ⟨_, rfl⟩
  have HM : Hid (max (η.max : Int) (min (n : Int) 4611686018427387903) = (m : Int)) := Lib.hid (by rw [hm]; unfold mx; omega)
  have HO : Hid (Hlf.Ok { η with max := max η.max (min n mx) }) := Lib.hid ⟨hok.s, hok.len, by have := hok.max; show max η.max (min n mx) ≤ _; unfold mx; omega, hok.fin, hok.lt⟩
  have H1 := Lib.hid h1
  have HD := Lib.hid (And.intro h2 (And.intro h3 (And.intro d1 (And.intro d2 d3))))
  rw [← hm] at HO ⊢
  clear h1 h2 h3 d1 d2 d3 hok hm
  go_enter Try.func25, Try.ntmps25
  go_wp2_with fail
  go_end0
  obtain ⟨h2, h3, d1, d2, d3⟩ := HD.out
  have hT : Touch [p] w (w.setCell ⟨p, 0, none⟩ (.int .u64 (m : Int))) := (Touch.refl [p] w).set (.inl (by simp)) _
  rw [HM.out]
  exact ⟨rfl, IsHlf.head (η := η) h2 (h3.touch hT (fun g hg hm => d2 (by simp at hm; rw [← hm]; exact hg))) d1 d2 d3 (H1.out.set 0 _) (hT.mono (fun g hg => .inl (by simp at hg; simp [hg]))) rfl rfl HO.out⟩
end Go.Proofs.Ytmidlielcioinaa
