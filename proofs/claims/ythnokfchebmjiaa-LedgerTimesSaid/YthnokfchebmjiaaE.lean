/- A ledger as blocks of the heap; the contracts of its readers and of New. Conditions: the ledger is in order. -/
import Derived.Test.YthnokfchebmjiaaC
import Derived.Test.YthnokfchebmjiaaD0
import Derived.Test.YthnokfchebmjiaaRgU
import Derived.Test.YthnokfchebmjiaaRgJ
namespace Go.Proofs.Ythnokfchebmjiaa
open Go.RowKit

theorem ret_b' {a b : Bool} (h : a = b) : Ending.returned (.bool a) = .returned (.bool b) := by rw [h]
structure Ldg where
  opens : List Pkt
  sent : List Rng
  last : Int
  largest : Int
  meas : Bool
  smooth : Nat
  varied : Nat
  least : Nat
  latest : Nat
  tot : Nat
def pns (l : List Pkt) : List Nat := l.map Pkt.pn
theorem pns_len (l : List Pkt) : (pns l).length = l.length := by simp [pns]
/-- The ledger is in order. -/
structure Ldg.Ok (σ : Ldg) : Prop where
  rise : σ.opens.Pairwise (fun s t => s.pn < t.pn)
  each : ∀ s ∈ σ.opens, (s.pn : Int) ≤ σ.last ∧ s.when_ ≤ 1099511627776 ∧ s.size ≤ 1099511627776
  sent : V σ.sent 0
  most : ∀ x ∈ σ.sent, (x.2 : Int) ≤ σ.last
  last : -1 ≤ σ.last ∧ σ.last ≤ 4611686018427387903
  largest : -1 ≤ σ.largest ∧ σ.largest ≤ σ.last
  times : σ.smooth ≤ 1099511627776 ∧ σ.varied ≤ 1099511627776 ∧ σ.least ≤ 1099511627776 ∧ σ.latest ≤ 1099511627776
  nopen : σ.opens.length ≤ σ.tot
  nsent : σ.sent.length ≤ σ.tot
  tot : σ.tot ≤ 100000
theorem Ldg.Ok.small {σ : Ldg} (h : σ.Ok) {s : Pkt} (hs : s ∈ σ.opens) : s.pn ≤ 4611686018427387903 := by
  have := (h.each s hs).1
  have := h.last.2
  omega
def lcells (σ : Ldg) (mb : Nat) (ao : Option Addr) (co q : Nat) : List Value := [.map (some mb), .slice ao σ.opens.length co, .pointer (some ⟨q, 0, none⟩), .int .i64 σ.last, .int .i64 σ.largest, .bool σ.meas, .int .u64 (σ.smooth : Int), .int .u64 (σ.varied : Int), .int .u64 (σ.least : Int), .int .u64 (σ.latest : Int)]
/-- Block p is the ledger σ; F: all its blocks. -/
def IsL (w : World) (p : Nat) (F : List Nat) (σ : Ldg) : Prop :=
  ∃ (mb : Nat) (ao : Option Addr) (co q : Nat) (Fq : List Nat) (m : Nat), IsBlk w p (lcells σ mb ao co q) 64 ∧ IsM w mb m (fnd σ.opens) ∧ Sl w 28 1 (.slice ao σ.opens.length co) σ.opens.length (us (pns σ.opens)) ∧ IsS w q 79 Fq σ.sent 0 ∧
    F = p :: mb :: (own (.slice ao σ.opens.length co) ++ Fq) ∧ (p ≠ mb ∧ p ∉ own (.slice ao σ.opens.length co) ∧ p ∉ Fq) ∧ (mb ∉ own (.slice ao σ.opens.length co) ∧ mb ∉ Fq) ∧ (∀ g ∈ own (.slice ao σ.opens.length co), g ∉ Fq) ∧ σ.Ok ∧ m ≤ σ.tot
/-- What a method makes of a ledger. -/
def StepL (w : World) (p : Nat) (F : List Nat) (σ : Ldg) (w' : World) : Prop := ∃ F', IsL w' p F' σ ∧ Touch F w w' ∧ ∀ g ∈ F', g ∈ F ∨ w.heap.size ≤ g
section
variable {w w' : World} {p : Nat} {F ks : List Nat} {σ : Ldg}
theorem IsL.touch (h : IsL w p F σ) (hk : Touch ks w w') (hn : ∀ g ∈ F, g ∉ ks) : IsL w' p F σ := by
  obtain ⟨mb, ao, co, q, Fq, m, h1, h2, h3, h4, rfl, h6⟩ := h
  exact ⟨mb, ao, co, q, Fq, m, h1.touch hk (hn _ (by simp)), h2.touch hk (hn _ (by simp)), h3.touch hk (fun g hg => hn g (by simp [hg])), h4.touch hk (fun g hg => hn g (by simp [hg])), rfl, h6⟩
theorem IsL.keep (h : IsL w p F σ) (hk : Touch [] w w') : IsL w' p F σ := h.touch hk (by simp)
theorem IsL.lt (h : IsL w p F σ) : ∀ g ∈ F, g < w.heap.size := by
  obtain ⟨mb, ao, co, q, Fq, m, h1, h2, h3, h4, rfl, h6⟩ := h
  intro g hg
  simp only [List.mem_cons, List.mem_append] at hg
  rcases hg with rfl | rfl | hg | hg
  · exact h1.lt
  · exact h2.lt
  · exact h3.lt g hg
  · exact h4.lt g hg
theorem IsL.ok (h : IsL w p F σ) : σ.Ok := by
  obtain ⟨mb, ao, co, q, Fq, m, _, _, _, _, _, _, _, _, h9, _⟩ := h
  exact h9
theorem StepL.same (h : IsL w p F σ) (hk : Touch [] w w') : StepL w p F σ w' := ⟨F, h.keep hk, hk.mono (by simp), fun g hg => .inl hg⟩
theorem StepL.keep {w2 : World} (h : StepL w p F σ w') (hk : Touch [] w' w2) : StepL w p F σ w2 := by
  obtain ⟨F', h1, h2, h3⟩ := h
  exact ⟨F', h1.keep hk, h2.trans hk (by simp), h3⟩
theorem StepL.trans {F' : List Nat} {w2 : World} (hT : Touch F w w') (hF : ∀ g, g ∈ F' → g ∈ F ∨ w.heap.size ≤ g) (h : StepL w' p F' σ w2) : StepL w p F σ w2 := by
  obtain ⟨F2, h1, h2, h3⟩ := h
  exact ⟨F2, h1, hT.trans h2 hF, fun g hg => (h3 g hg).elim (hF g) (fun h => .inr (Nat.le_trans hT.size h))⟩
end
theorem largest_any (w : World) (p : Nat) (F : List Nat) (σ : Ldg) (h : IsL w p F σ) : Calls Try.prog 18 #[.pointer (some ⟨p, 0, none⟩)] w fun e w' => e = .returned (.int .i64 σ.largest) ∧ w' = w := by
  obtain ⟨mb, ao, co, q, Fq, m, h1, _⟩ := h
  have c4 := h1.cell 4
  have hl := h1.lt
  simp only [lcells, List.getElem?_cons_zero, List.getElem?_cons_succ] at c4
  clear h1
  go_enter Try.func18, Try.ntmps18
  go_wp2_with fail
  go_ret
  exact ⟨rfl, rfl⟩
theorem rtt_any (w : World) (p : Nat) (F : List Nat) (σ : Ldg) (h : IsL w p F σ) : Calls Try.prog 16 #[.pointer (some ⟨p, 0, none⟩)] w fun e w' => e = .returned (.tuple #[.int .u64 (σ.smooth : Int), .int .u64 (σ.varied : Int), .int .u64 (σ.least : Int)]) ∧ Touch [] w w' := by
  obtain ⟨mb, ao, co, q, Fq, m, h1, _⟩ := h
  have c6 := h1.cell 6
  have c7 := h1.cell 7
  have c8 := h1.cell 8
  have hl := h1.lt
  simp only [lcells, List.getElem?_cons_zero, List.getElem?_cons_succ] at c6 c7 c8
  clear h1
  go_enter Try.func16, Try.ntmps16
  go_wp2_with fail
  go_quiet (fail)
  go_wp2_with fail
  refine bodyPost_ret (v := .tuple #[.int .u64 (σ.smooth : Int), .int .u64 (σ.varied : Int), .int .u64 (σ.least : Int)]) (by simp [results, Try.results16, go_sem]) rfl ?_
  exact ⟨rfl, (Touch.refl _ _).drewN _⟩
theorem clone36_any (w : World) (v : Value) (n : Nat) (b : List Nat) (h : Rd w 1 v n (us b)) (hv : ∀ a c, v = .slice a n c → a = none → n = 0 ∧ c = 0) (hn : n ≤ 1099511627776) :
    Calls Try.prog 36 #[v] w fun e w' => ∃ v', e = .returned v' ∧ Rd w' 1 v' n (us b) ∧ Touch [] w w' ∧ ∀ g ∈ own v', w.heap.size ≤ g := by
  obtain ⟨i0, hi0, hz0, hz1, hz2⟩ := info_parts info28
  have heq := fun (w : World) (a : Option Addr) (n c n' c' : Nat) => Lib.run_eql_slice_nil (P := Try.prog) w 37 28 a n c n' c' und37
  obtain ⟨a, c, rfl⟩ := h.form
  have H := Lib.hid h
  cases a with
  | none =>
    obtain ⟨rfl, rfl⟩ := hv none c rfl rfl
    clear h hv
    go_enter Try.func36, Try.ntmps36
    go_wp2_with fail
    go_ret
    exact ⟨_, rfl, H.out, Touch.refl _ _, by simp⟩
  | some ad =>
    clear h hv
    have hse : ∀ w : World, Sl w 28 1 (.slice (some ⟨w.heap.size, 0, none⟩) 0 0) 0 [] := fun w => ⟨by simp, .inr ⟨w.heap.size, 0, 0, rfl, Nat.le_refl _, Nat.zero_le _, fun h => absurd h (Nat.lt_irrefl 0)⟩⟩
    have hse2 : Sl (w.alloc (.cells #[] 28)) 28 1 (.slice (some ⟨w.heap.size, 0, none⟩) 0 0) 0 [] := ⟨by simp, .inr ⟨w.heap.size, 0, 0, rfl, Nat.le_refl _, Nat.zero_le _, fun h => absurd h (Nat.lt_irrefl 0)⟩⟩
    clear hse
    have HSE := Lib.hid hse2
    clear hse2
    go_enter Try.func36, Try.ntmps36
    go_wp2_with (at_builtin; refine wpList_append_sl _ rfl _ _ 37 rfl 28 i0 _ 1 8 und37 hi0 hz0 hz1 hz2 rfl (by omega) (.slice (some ⟨w.heap.size, 0, none⟩) 0 0) 0 [] rfl HSE.out (.slice (some ad) n c) n (us b) rfl (H.out.touch ((Touch.refl [] _).alloc _) (by simp)) (us_one _) (by unfold maxLen; omega) (by omega) fun a' c' w' k1 k2 k3 k4 => ?_)
    go_ret
    simp only [Nat.zero_add, List.nil_append] at k1 k3
    refine ⟨.slice a' n c', rfl, k1.rd, ?_, ?_⟩
    · exact ((Touch.refl [] w).alloc _).trans k2 (by simp [own])
    · intro g hg
      rcases k3 g hg with h | h
      · simp [own] at h
      · simp at h; omega
theorem open_any (w : World) (p : Nat) (F : List Nat) (σ : Ldg) (h : IsL w p F σ) : Calls Try.prog 19 #[.pointer (some ⟨p, 0, none⟩)] w fun e w' => ∃ v, e = .returned v ∧ Rd w' 1 v σ.opens.length (us (pns σ.opens)) ∧ Touch [] w w' ∧ ∀ g ∈ own v, w.heap.size ≤ g := by
  obtain ⟨mb, ao, co, q, Fq, m, h1, h2, h3, h4, _, _, _, _, hok, _⟩ := h
  have c1 := h1.cell 1
  have hl := h1.lt
  simp only [lcells, List.getElem?_cons_zero, List.getElem?_cons_succ] at c1
  have hnn := hok.nopen
  have htt := hok.tot
  have HC := Lib.hid (clone36_any w _ _ _ h3.rd (fun a c he h0 => by
    subst h0
    rcases h3.cases with ⟨he', h0, _⟩ | ⟨g, off, cap, he', _⟩
    · rw [he'] at he; simp at he; exact ⟨by omega, he.2.symm⟩
    · rw [he'] at he; simp at he) (by omega))
  clear h1 h2 h3 h4 hok
  go_enter Try.func19, Try.ntmps19
  go_wp2_with fail
  refine HC.out.mono ?_
  rintro e w2 ⟨v, rfl, k1, k2, k3⟩
  obtain ⟨a', c', rfl⟩ := k1.form
  have K := Lib.hid (And.intro k1 (And.intro k2 k3))
  clear k1 k2 k3
  go_wp2_with fail
  go_ret
  exact ⟨_, rfl, K.out⟩

def led0 : Ldg := ⟨[], [], -1, -1, false, 10, 5, 0, 10, 0⟩
theorem newL_any (w : World) : Calls Try.prog 8 #[] w fun e w' => ∃ p F, e = .returned (.pointer (some ⟨p, 0, none⟩)) ∧ IsL w' p F led0 ∧ Touch [] w w' ∧ ∀ g ∈ F, w.heap.size ≤ g := by
  have hmm := @run_makeMap Try.prog
  go_enter Try.func8, Try.ntmps8
  go_wp2_with fail
  refine (new_any _).mono ?_
  rintro e w1 ⟨rfl, rfl⟩
  go_wp2_with fail
  go_ret
  have h0 : IsM (w.alloc (.map #[] 0)) w.heap.size 0 (fnd []) := IsM.made w
  refine ⟨w.heap.size + 1 + 1, [w.heap.size + 1 + 1, w.heap.size, w.heap.size + 1], rfl, ⟨w.heap.size, none, 0, w.heap.size + 1, [w.heap.size + 1], 0, ?_, ?_, Sl.nil _ _ _, ?_, by simp [led0], by simp [led0]; omega, by simp [led0], by simp [led0], ?_, by simp [led0]⟩, (((Touch.refl _ _).alloc _).alloc _).alloc _, fun g hg => by simp at hg; omega⟩
  · have := IsBlk.new ((w.alloc (.map #[] 0)).alloc (.cells #[.slice none 0 0, .int .u64 0] 79)) (lcells led0 w.heap.size none 0 (w.heap.size + 1)) 64
    simp only [World.size_alloc] at this
    exact this
  · exact h0.touch (((Touch.refl [] _).alloc _).alloc _) (by simp)
  · have := (IsS.new (w.alloc (.map #[] 0)) 79).keep ((Touch.refl [] _).alloc (.cells #[.map (some w.heap.size), .slice none 0 0, .pointer (some ⟨w.heap.size + 1, 0, none⟩), .int .i64 (-1), .int .i64 (-1), .bool false, .int .u64 10, .int .u64 5, .int .u64 0, .int .u64 10] 64))
    simp only [World.size_alloc] at this
    exact this
  · exact ⟨by simp [led0], by simp [led0], V.nil 0, by simp [led0], by simp [led0], by simp [led0], by simp [led0], by simp [led0], by simp [led0], by simp [led0]⟩
end Go.Proofs.Ythnokfchebmjiaa
