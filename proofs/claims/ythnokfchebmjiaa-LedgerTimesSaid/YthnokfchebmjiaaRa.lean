/- The document's ledger on the heap; the contracts of its New, Rtt, and of Flight, Opens, Tick where nothing is open. Conditions: the ledger is in order. -/
import Derived.Test.YthnokfchebmjiaaOn
namespace Go.Proofs.Ythnokfchebmjiaa
open Go.RowKit

structure RL where
  sent : List Pkt
  opn : List Bool
  top : Int
  smooth : Nat
  varied : Nat
  least : Nat
  latest : Nat
  samp : Bool
def pk4 (l : List Pkt) : List Value := l.flatMap pcells
def blv (l : List Bool) : List Value := l.map Value.bool
theorem pk4_len (l : List Pkt) : (pk4 l).length = l.length * 4 := by
  induction l with
  | nil => rfl
  | cons x l ih =>
    show (pcells x ++ pk4 l).length = _
    rw [List.length_append, ih, List.length_cons]
    show 4 + _ = _
    omega
theorem pk4_append (l m : List Pkt) : pk4 (l ++ m) = pk4 l ++ pk4 m := by simp [pk4]
theorem pk4_get : ∀ (l : List Pkt) (i : Nat) (s : Pkt), l[i]? = some s → ∀ j, j < 4 → (pk4 l)[i * 4 + j]? = (pcells s)[j]?
  | [], i, s, h, _, _ => by simp at h
  | x :: l, 0, s, h, j, hj => by
    simp at h
    subst h
    show (pcells x ++ pk4 l)[0 * 4 + j]? = _
    rw [List.getElem?_append_left (by show 0 * 4 + j < 4; omega)]
    congr 1
    omega
  | x :: l, i + 1, s, h, j, hj => by
    show (pcells x ++ pk4 l)[(i + 1) * 4 + j]? = _
    rw [List.getElem?_append_right (by show 4 ≤ _; omega), ← pk4_get l i s (by simpa using h) j hj]
    congr 1
    show (i + 1) * 4 + j - 4 = _
    omega
theorem pk4_one (l : List Pkt) : ∀ u ∈ pk4 l, u.oneCell' = true := by
  intro u hu
  unfold pk4 at hu
  obtain ⟨s, _, hs⟩ := List.mem_flatMap.1 hu
  simp [pcells] at hs
  rcases hs with rfl | rfl | rfl | rfl <;> rfl
theorem blv_len (l : List Bool) : (blv l).length = l.length := by simp [blv]
theorem blv_append (l m : List Bool) : blv (l ++ m) = blv l ++ blv m := by simp [blv]
theorem blv_one (l : List Bool) : ∀ u ∈ blv l, u.oneCell' = true := by
  intro u hu
  unfold blv at hu
  obtain ⟨s, _, rfl⟩ := List.mem_map.1 hu
  rfl
theorem info30 : (Try.prog.info? 30).map (fun i => (i.zero, i.size, i.bytes)) = some (some (pktV noPkt), 4, 32) := by kernel_rfl
theorem info4 : (Try.prog.info? 4).map (fun i => (i.zero, i.size, i.bytes)) = some (some (.bool false), 1, 1) := by kernel_rfl
theorem und65 : Try.prog.underlying 65 = some (.slice 30) := by kernel_rfl
theorem und66 : Try.prog.underlying 66 = some (.slice 4) := by kernel_rfl
/-- The document's ledger is in order. -/
structure RL.Ok (ρ : RL) : Prop where
  ln : ρ.opn.length = ρ.sent.length
  few : ρ.sent.length ≤ 100000
  top : -1 ≤ ρ.top ∧ ρ.top ≤ 4611686018427387903
  times : ρ.smooth ≤ 1099511627776 ∧ ρ.varied ≤ 1099511627776 ∧ ρ.least ≤ 1099511627776 ∧ ρ.latest ≤ 1099511627776
  each : ∀ s ∈ ρ.sent, s.pn ≤ 4611686018427387903 ∧ s.when_ ≤ 1099511627776 ∧ s.size ≤ 1099511627776
def rcells (ρ : RL) (aS : Option Addr) (cS : Nat) (aO : Option Addr) (cO : Nat) : List Value := [.slice aS ρ.sent.length cS, .slice aO ρ.sent.length cO, .int .i64 ρ.top, .int .u64 (ρ.smooth : Int), .int .u64 (ρ.varied : Int), .int .u64 (ρ.least : Int), .int .u64 (ρ.latest : Int), .bool ρ.samp]
/-- Block p is the document's ledger ρ; F: all its blocks. -/
def IsR (w : World) (p : Nat) (F : List Nat) (ρ : RL) : Prop :=
  ∃ (aS : Option Addr) (cS : Nat) (aO : Option Addr) (cO : Nat), IsBlk w p (rcells ρ aS cS aO cO) 68 ∧ Sl w 30 4 (.slice aS ρ.sent.length cS) ρ.sent.length (pk4 ρ.sent) ∧ Sl w 4 1 (.slice aO ρ.sent.length cO) ρ.sent.length (blv ρ.opn) ∧
    F = p :: (own (.slice aS ρ.sent.length cS) ++ own (.slice aO ρ.sent.length cO)) ∧ p ∉ own (.slice aS ρ.sent.length cS) ∧ p ∉ own (.slice aO ρ.sent.length cO) ∧ (∀ g ∈ own (.slice aS ρ.sent.length cS), g ∉ own (.slice aO ρ.sent.length cO)) ∧ ρ.Ok
section
variable {w w' : World} {p : Nat} {F ks : List Nat} {ρ : RL}
theorem IsR.touch (h : IsR w p F ρ) (hk : Touch ks w w') (hn : ∀ g ∈ F, g ∉ ks) : IsR w' p F ρ := by
  obtain ⟨aS, cS, aO, cO, h1, h2, h3, rfl, h4⟩ := h
  exact ⟨aS, cS, aO, cO, h1.touch hk (hn _ (by simp)), h2.touch hk (fun g hg => hn g (by simp [hg])), h3.touch hk (fun g hg => hn g (by simp [hg])), rfl, h4⟩
theorem IsR.lt (h : IsR w p F ρ) : ∀ g ∈ F, g < w.heap.size := by
  obtain ⟨aS, cS, aO, cO, h1, h2, h3, rfl, h4⟩ := h
  intro g hg
  simp only [List.mem_cons, List.mem_append] at hg
  rcases hg with rfl | hg | hg
  · exact h1.lt
  · exact h2.lt g hg
  · exact h3.lt g hg
theorem IsR.ok (h : IsR w p F ρ) : ρ.Ok := by
  obtain ⟨_, _, _, _, _, _, _, _, _, _, _, h⟩ := h
  exact h
end
def rho0 : RL := ⟨[], [], -1, 0, 0, 0, 0, false⟩
theorem newR_any (w : World) : Calls Try.prog 9 #[] w fun e w' => ∃ p F, e = .returned (.pointer (some ⟨p, 0, none⟩)) ∧ IsR w' p F rho0 ∧ Touch [] w w' ∧ ∀ g ∈ F, w.heap.size ≤ g := by
  go_enter Try.func9, Try.ntmps9
  go_wp2_with fail
  go_ret
  refine ⟨w.heap.size, [w.heap.size], rfl, ⟨none, 0, none, 0, ?_, Sl.nil _ _ _, Sl.nil _ _ _, by simp [rho0], by simp, by simp, by simp, ?_⟩, (Touch.refl _ _).alloc _, by simp⟩
  · exact IsBlk.new w (rcells rho0 none 0 none 0) 68
  · exact ⟨rfl, by simp [rho0], by simp [rho0], by simp [rho0], by simp [rho0]⟩
theorem rttR_any (w : World) (p : Nat) (F : List Nat) (ρ : RL) (h : IsR w p F ρ) (hs : ρ.samp = true) : Calls Try.prog 33 #[.pointer (some ⟨p, 0, none⟩)] w fun e w' => e = .returned (.tuple #[.int .u64 (ρ.smooth : Int), .int .u64 (ρ.varied : Int), .int .u64 (ρ.least : Int)]) ∧ Touch [] w w' := by
  obtain ⟨aS, cS, aO, cO, h1, _⟩ := h
  have c3 := h1.cell 3
  have c4 := h1.cell 4
  have c5 := h1.cell 5
  have c7 := h1.cell 7
  have hl := h1.lt
  simp only [rcells, List.getElem?_cons_zero, List.getElem?_cons_succ] at c3 c4 c5 c7
  rw [hs] at c7
  clear h1 hs
  go_enter Try.func33, Try.ntmps33
  go_wp2_with fail
  go_quiet (fail)
  go_wp2_with fail
  refine bodyPost_ret (v := .tuple #[.int .u64 (ρ.smooth : Int), .int .u64 (ρ.varied : Int), .int .u64 (ρ.least : Int)]) (by simp [results, Try.results33, go_sem]) rfl ?_
  exact ⟨rfl, (Touch.refl _ _).drewN _⟩
/-- A place of the sent ones. -/
theorem Sl.pkt {w : World} {a : Option Addr} {n c : Nat} {l : List Pkt} (h : Sl w 30 4 (.slice a n c) n (pk4 l)) (hn : l.length = n) {i : Nat} {s : Pkt} (hi : l[i]? = some s) :
    ∃ g o, a = Option.some ⟨g, o, none⟩ ∧ g < w.heap.size ∧ w.cell? ⟨g, o + i * 4, none⟩ = some (.int .u64 (s.pn : Int)) ∧ w.cell? ⟨g, o + i * 4 + 1, none⟩ = some (.int .u64 (s.when_ : Int)) ∧ w.cell? ⟨g, o + i * 4 + 2, none⟩ = some (.int .i64 (s.size : Int)) ∧ w.cell? ⟨g, o + i * 4 + 3, none⟩ = some (.bool s.eager) := by
  have hil := (List.getElem?_eq_some_iff.1 hi).1
  rcases h.cases with ⟨_, h0, _⟩ | ⟨g, off, cap, he, hnc, _, hg, hc, _⟩
  · omega
  · simp at he
    obtain ⟨rfl, rfl⟩ := he
    have key : ∀ j, j < 4 → w.cell? ⟨g, off + i * 4 + j, none⟩ = (pcells s)[j]? := fun j hj => by
      rw [Nat.add_assoc, hc _ (by omega)]
      exact pk4_get l i s hi j hj
    exact ⟨g, off, rfl, hg (by omega), key 0 (by omega), key 1 (by omega), key 2 (by omega), key 3 (by omega)⟩
theorem Sl.bool {w : World} {a : Option Addr} {n c : Nat} {l : List Bool} (h : Sl w 4 1 (.slice a n c) n (blv l)) (hn : l.length = n) {i : Nat} {b : Bool} (hi : l[i]? = some b) :
    ∃ g o, a = Option.some ⟨g, o, none⟩ ∧ g < w.heap.size ∧ w.cell? ⟨g, o + i, none⟩ = some (.bool b) ∧ (∀ j, w.frozen? ⟨g, j, none⟩ = false) ∧ g ∈ own (.slice a n c) := by
  have hil := (List.getElem?_eq_some_iff.1 hi).1
  rcases h.cases with ⟨_, h0, _⟩ | ⟨g, off, cap, he, hnc, _, hg, hc, hf⟩
  · omega
  · simp at he
    obtain ⟨rfl, rfl⟩ := he
    refine ⟨g, off, rfl, hg (by omega), ?_, hf (by omega), by rw [own_some _ _ _ (by omega)]; simp⟩
    rw [hc i (by omega)]
    unfold blv
    rw [List.getElem?_map, hi]
    rfl
end Go.Proofs.Ythnokfchebmjiaa
