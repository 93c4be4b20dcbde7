/- The contracts of slices.Clone and of a pipe's Pull. Conditions: no more than 2^40 bytes. -/
import Derived.Test.YtaklbobmbobcaaaA
import Derived.WalkSpells
namespace Go.Proofs.Ytaklbobmbobcaaa
open Go.RowKit

/-- What a call hands back: a new slice of the bytes b; of what was there only the blocks ks may be turned. -/
def NewBytes (w : World) (ks : List Nat) (b : List UInt8) (e : Ending) (w' : World) : Prop :=
  ∃ a c, e = .returned (.slice a b.length c) ∧ Sl w' 5 1 (.slice a b.length c) b.length (cb b) ∧ Touch ks w w' ∧ ∀ g ∈ own (.slice a b.length c), w.heap.size ≤ g

theorem sl_empty (w : World) (e : TypeId) (sz g o : Nat) : Sl w e sz (.slice (some ⟨g, o, none⟩) 0 0) 0 [] := ⟨by simp, .inr ⟨g, o, 0, rfl, Nat.le_refl _, Nat.zero_le _, fun h => absurd h (by omega)⟩⟩

theorem clone_any (w : World) (b : List UInt8) (x : Value) (hx : Rd w 1 x b.length (cb b)) (hl : b.length ≤ 1099511627776) :
    Calls Try.prog 17 #[x] w (NewBytes w [] b) := by
  have heq := fun (w : World) (a : Option Addr) (n c n' c' : Nat) => Lib.run_eql_slice_nil (P := Try.prog) w 26 5 a n c n' c' Try.underlying26
  obtain ⟨i0, hi, hz0, hz1, hz2⟩ := info_parts info5
  have HX := Lib.hid hx
  have HL := Lib.hid hl
  obtain ⟨ax, cx, rfl⟩ := hx.form
  cases ax with
  | none =>
    have h0 : b.length = 0 := by
      rcases hx.cases with ⟨a, c, _, h0, _⟩ | ⟨g, off, cap, he, _⟩
      · exact h0
      · simp at he
    have hb : b = [] := List.eq_nil_of_length_eq_zero h0
    subst hb
    clear hx hl h0
    go_enter Try.func17, Try.ntmps17
    go_wp2_with fail
    go_ret
    exact ⟨none, 0, rfl, Sl.nil _ _ _, Touch.refl _ _, by simp⟩
  | some ax =>
    clear hx hl
    go_enter Try.func17, Try.ntmps17
    go_wp2_with (at_builtin; refine wpList_append_sl _ rfl (.tmp 5) (.tmp 6) 26 rfl 5 i0 (.int .u8 0) 1 1 Try.underlying26 hi hz0 hz1 hz2 rfl (by decide) (.slice (some ⟨w.heap.size, 0, none⟩) 0 0) 0 [] rfl (sl_empty _ _ _ _ _) (.slice (some ax) b.length cx) b.length (cb b) rfl (HX.out.keep ((Below.refl _ _).alloc (Nat.le_refl _) _)) (cb_one _) (pipe_small (by have := HL.out; omega)) (pipe_small2 (by have := HL.out; omega)) ?_; intro a' c' w1 g1 g2 g3 g4; have G1 := Lib.hid g1; have G2 := Lib.hid g2; have G3 := Lib.hid g3; clear g1 g2 g3 g4)
    go_ret
    have h1 := G1.out
    have h2 := G2.out
    have h3 := G3.out
    simp only [Nat.zero_add, List.nil_append, own_zero] at h1 h2 h3
    refine ⟨a', c', by simp, h1, ((Touch.refl [] w).alloc _).trans h2 (by simp), fun g hg => ?_⟩
    rcases h3 g hg with h | h
    · simp at h
    · simp at h; omega

theorem pull_end {w w1 : World} {p c : Nat} {a : Option Addr} {b s2 : List UInt8} {v v2 : Value} {e : Ending} (H1 : IsBlk w p [v] 43) (H3 : p ∉ own v) (HS : Sl w1 5 1 (.slice a b.length c) b.length (cb b)) (HT : Touch [] w w1)
    (HG : ∀ g ∈ own (.slice a b.length c), w.heap.size ≤ g) (he : e = .returned (.slice a b.length c)) (HV : Sl w 5 1 v2 s2.length (cb s2)) (ho : ∀ g ∈ own v2, g ∈ own v) :
    ∃ F', NewBytes w (p :: own v) b e (w1.setCell ⟨p, 0, none⟩ v2) ∧ IsPipe (w1.setCell ⟨p, 0, none⟩ v2) p F' s2 ∧ ∀ g ∈ F', g ∈ p :: own v ∨ w.heap.size ≤ g := by
  have hT2 : Touch [p] w1 (w1.setCell ⟨p, 0, none⟩ v2) := (Touch.refl [p] _).set (p := ⟨p, 0, none⟩) (.inl (by simp)) _
  have hp2 : p ∉ own v2 := fun h => H3 (ho p h)
  refine ⟨p :: own v2, ⟨a, c, he, HS.touch hT2 (fun g hg => ?_), ((HT.mono (by simp)).trans hT2 (by simp)), HG⟩, ⟨v2, (H1.touch HT (by simp)).set 0 _, (HV.touch HT (by simp)).touch hT2 (fun g hg hm => ?_), hp2, rfl⟩, fun g hg => .inl ?_⟩
  · have := HG g hg
    have := H1.lt
    simp
    omega
  · simp at hm
    exact hp2 (hm ▸ hg)
  · rcases List.mem_cons.1 hg with rfl | hg
    · simp
    · exact List.mem_cons_of_mem _ (ho g hg)

theorem pull_core (w : World) (p : Nat) (F : List Nat) (s : List UInt8) (n k : Int) (m : Nat) (h : IsPipe w p F s) (hk : (if n < 0 then (0 : Int) else n) = k) (hkm : (if (s.length : Int) < k then (s.length : Int) else k) = (m : Int)) (hms : m ≤ s.length) (hl : s.length ≤ 1099511627776) :
    Calls Try.prog 9 #[.pointer (some ⟨p, 0, none⟩), .int .i64 n] w fun e w' => ∃ F', NewBytes w F (s.take m) e w' ∧ IsPipe w' p F' (s.drop m) ∧ ∀ g ∈ F', g ∈ F ∨ w.heap.size ≤ g := by
  obtain ⟨v, h1, h2, h3, rfl⟩ := h
  have c1 := h1.cell 0
  simp only [List.getElem?_cons_zero] at c1
  have H1 := Lib.hid h1
  have H2 := Lib.hid h2
  have H3 := Lib.hid h3
  have HL := Lib.hid hl
  have HMS := Lib.hid hms
  rcases h2.cases with ⟨rfl, h0, h00⟩ | ⟨g, off, cap, rfl, hn, hcm, _⟩
  · have hs0 : s = [] := List.eq_nil_of_length_eq_zero h0
    subst hs0
    obtain rfl : m = 0 := by simpa using hms
    clear h1 h2 h3 hl h0 h00 hms
    have hk0 : k = 0 ∨ 0 < k := by simp at hkm; split at hk <;> omega
    clear hkm
    rcases hk0 with rfl | hk0
    all_goals
      go_enter Try.func9, Try.ntmps9
      go_wp2_with fail
      refine (clone_any _ [] _ (Sl.nil _ 5 _).rd (by simp)).mono ?_
      rintro e w1 ⟨a, c, rfl, hS, hT, hG⟩
      have I1 := Lib.hid (H1.out.touch hT (by simp))
      have d1 := I1.out.cell 0
      have d2 := I1.out.frozen 0
      simp only [List.getElem?_cons_zero] at d1
      have HS := Lib.hid hS
      have HT := Lib.hid hT
      have HG := Lib.hid hG
      clear hS hT hG
      go_wp2_with fail
      go_ret
      exact pull_end H1.out H3.out HS.out HT.out HG.out rfl (Sl.nil _ _ _) (by simp)
  · clear h1 h2 h3 hl
    have hmc : m ≤ cap := by omega
    have hlt : (s.take m).length = m := by simp; omega
    have hrd : Rd w 1 (.slice (some ⟨g, off, none⟩) m cap) (s.take m).length (cb (s.take m)) := by
      have := (H2.out.part 0 m cap (by simpa using hms) hmc (by simp)).rd
      rw [hlt]
      simpa [cb_take] using this
    have HR := Lib.hid hrd
    have HLT := Lib.hid hlt
    clear hrd hlt
    by_cases hcp : cap = m
    · have hsm : m = s.length := by omega
      have HSM := Lib.hid hsm
      subst hcp
      clear hsm
      go_enter Try.func9, Try.ntmps9
      go_wp2_with fail
      refine (clone_any _ (s.take cap) _ HR.out (by have := HLT.out; have := HL.out; omega)).mono ?_
      rintro e w1 ⟨a, c, rfl, hS, hT, hG⟩
      have I1 := Lib.hid (H1.out.touch hT (by simp))
      have d1 := I1.out.cell 0
      have d2 := I1.out.frozen 0
      simp only [List.getElem?_cons_zero] at d1
      have HS := Lib.hid hS
      have HT := Lib.hid hT
      have HG := Lib.hid hG
      clear hS hT hG
      go_wp2_with fail
      go_ret
      exact pull_end H1.out H3.out HS.out HT.out HG.out (by rw [HLT.out]; rfl) (by rw [HSM.out]; simpa [cb] using sl_empty _ _ _ _ _) (by simp [own])
    · go_enter Try.func9, Try.ntmps9
      go_wp2_with fail
      refine (clone_any _ (s.take m) _ HR.out (by have := HLT.out; have := HL.out; omega)).mono ?_
      rintro e w1 ⟨a, c, rfl, hS, hT, hG⟩
      have I1 := Lib.hid (H1.out.touch hT (by simp))
      have d1 := I1.out.cell 0
      have d2 := I1.out.frozen 0
      simp only [List.getElem?_cons_zero] at d1
      have HS := Lib.hid hS
      have HT := Lib.hid hT
      have HG := Lib.hid hG
      clear hS hT hG
      go_wp2_with fail
      go_ret
      exact pull_end H1.out H3.out HS.out HT.out HG.out (by rw [HLT.out]; rfl) (by have := H2.out.part m (s.length - m) (cap - m) (by have := HMS.out; omega) (by omega) (by omega); rw [Nat.mul_one, Nat.mul_one, cb_drop, cb_take, List.take_of_length_le (by simp)] at this; simpa using this) (own_sub (by omega))

/-- How many bytes are pulled. -/
def pullN (n : Int) (len : Nat) : Nat := min n.toNat len
theorem pull_any (w : World) (p : Nat) (F : List Nat) (s : List UInt8) (n : Int) (h : IsPipe w p F s) (hl : s.length ≤ 1099511627776) :
    Calls Try.prog 9 #[.pointer (some ⟨p, 0, none⟩), .int .i64 n] w fun e w' => ∃ F', NewBytes w F (s.take (pullN n s.length)) e w' ∧ IsPipe w' p F' (s.drop (pullN n s.length)) ∧ ∀ g ∈ F', g ∈ F ∨ w.heap.size ≤ g :=
  pull_core w p F s n _ _ h rfl (by unfold pullN; split <;> split at * <;> omega) (by unfold pullN; omega) hl
end Go.Proofs.Ytaklbobmbobcaaa
