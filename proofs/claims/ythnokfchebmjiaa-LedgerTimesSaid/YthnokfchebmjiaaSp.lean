/- Things that lie beside one another on the heap; a ledger among them. Conditions: none of their own. -/
import Derived.Test.YthnokfchebmjiaaLa
namespace Go.Proofs.Ythnokfchebmjiaa
open Go.RowKit

/-- What lies on the heap: what is said of it, and its blocks. -/
structure Thing where
  P : World → Prop
  B : List Nat
  st : ∀ (w w' : World) (ks : List Nat), P w → Touch ks w w' → (∀ g ∈ B, g ∉ ks) → P w'
  lt : ∀ w, P w → ∀ g ∈ B, g < w.heap.size
/-- All lie behind world w, beside one another; what w held is as it was. -/
def Sep (w wk : World) (L : List Thing) : Prop := Touch [] w wk ∧ (∀ T ∈ L, T.P wk ∧ ∀ g ∈ T.B, w.heap.size ≤ g) ∧ L.Pairwise (fun S T => ∀ g ∈ S.B, g ∉ T.B)
section
variable {w wk w' : World} {L Ns : List Thing} {S T : Thing}
theorem Sep.touch (h : Sep w wk L) : Touch [] w wk := h.1
theorem Sep.get (h : Sep w wk L) (hT : T ∈ L) : T.P wk := (h.2.1 T hT).1
theorem Sep.head (h : Sep w wk (T :: L)) : T.P wk := h.get (by simp)
theorem Sep.keep (h : Sep w wk L) (hk : Touch [] wk w') : Sep w w' L := ⟨h.1.trans hk (by simp), fun T hT => ⟨T.st _ _ _ (h.get hT) hk (by simp), (h.2.1 T hT).2⟩, h.2.2⟩
theorem Sep.tail (h : Sep w wk (T :: L)) : Sep w wk L := ⟨h.1, fun S hS => h.2.1 S (by simp [hS]), (List.pairwise_cons.1 h.2.2).2⟩
theorem Sep.swap (h : Sep w wk (S :: T :: L)) : Sep w wk (T :: S :: L) := by
  obtain ⟨h1, h2, h3⟩ := h
  obtain ⟨h4, h5⟩ := List.pairwise_cons.1 h3
  obtain ⟨h6, h7⟩ := List.pairwise_cons.1 h5
  refine ⟨h1, fun U hU => h2 U (by simp at hU ⊢; rcases hU with h | h | h <;> simp [h]), List.pairwise_cons.2 ⟨fun U hU g hg hm => ?_, List.pairwise_cons.2 ⟨fun U hU => h4 U (by simp [hU]), h7⟩⟩⟩
  rcases List.mem_cons.1 hU with rfl | hU
  · exact h4 T (by simp) g hm hg
  · exact h6 U hU g hg hm
/-- The first thing is turned; out of its blocks and new ones others come. -/
theorem Sep.go (h : Sep w wk (T :: L)) (hk : Touch T.B wk w') (Ns : List Thing) (hN : ∀ N ∈ Ns, N.P w' ∧ ∀ g ∈ N.B, g ∈ T.B ∨ wk.heap.size ≤ g) (hp : Ns.Pairwise (fun S T => ∀ g ∈ S.B, g ∉ T.B)) : Sep w w' (Ns ++ L) := by
  obtain ⟨h1, h2, h3⟩ := h
  obtain ⟨h4, h5⟩ := List.pairwise_cons.1 h3
  have hs := h1.size
  refine ⟨h1.trans hk (fun g hg => .inr ((h2 T (by simp)).2 g hg)), fun U hU => ?_, List.pairwise_append.2 ⟨hp, h5, fun N hN' U hU g hg hm => ?_⟩⟩
  · rcases List.mem_append.1 hU with hU | hU
    · exact ⟨(hN U hU).1, fun g hg => ((hN U hU).2 g hg).elim ((h2 T (by simp)).2 g) (fun h => by omega)⟩
    · exact ⟨U.st _ _ _ (h2 U (by simp [hU])).1 hk (fun g hg hm => h4 U hU g hm hg), (h2 U (by simp [hU])).2⟩
  · rcases (hN N hN').2 g hg with h | h
    · exact h4 U hU g h hm
    · have := U.lt _ (h2 U (by simp [hU])).1 g hm
      omega
theorem Sep.grow (h : Sep w wk L) (hk : Touch [] wk w') (Ns : List Thing) (hN : ∀ N ∈ Ns, N.P w' ∧ ∀ g ∈ N.B, wk.heap.size ≤ g) (hp : Ns.Pairwise (fun S T => ∀ g ∈ S.B, g ∉ T.B)) : Sep w w' (Ns ++ L) := by
  obtain ⟨h1, h2, h3⟩ := h
  have hs := h1.size
  refine ⟨h1.trans hk (by simp), fun U hU => ?_, List.pairwise_append.2 ⟨hp, h3, fun N hN' U hU g hg hm => ?_⟩⟩
  · rcases List.mem_append.1 hU with hU | hU
    · exact ⟨(hN U hU).1, fun g hg => by have := (hN U hU).2 g hg; omega⟩
    · exact ⟨U.st _ _ _ (h2 U hU).1 hk (by simp), (h2 U hU).2⟩
  · have := (hN N hN').2 g hg
    have := U.lt _ (h2 U hU).1 g hm
    omega
theorem Sep.nil (h : Touch [] w wk) : Sep w wk [] := ⟨h, by simp, .nil⟩
/-- The first thing is turned into another. -/
theorem Sep.step (h : Sep w wk (T :: L)) (hk : Touch T.B wk w') (N : Thing) (hN : N.P w') (hB : ∀ g ∈ N.B, g ∈ T.B ∨ wk.heap.size ≤ g) : Sep w w' (N :: L) :=
  h.go hk [N] (by simp; exact ⟨hN, hB⟩) (by simp)
theorem Sep.new (h : Sep w wk L) (hk : Touch [] wk w') (N : Thing) (hN : N.P w') (hB : ∀ g ∈ N.B, wk.heap.size ≤ g) : Sep w w' (N :: L) :=
  h.grow hk [N] (by simp; exact ⟨hN, hB⟩) (by simp)
end
/-- A ledger. -/
def tL (p : Nat) (σ : Ldg) (F : List Nat) : Thing := ⟨fun w => IsL w p F σ, F, fun _ _ _ h hk hn => h.touch hk hn, fun _ h => h.lt⟩
/-- Numbers that are only read. -/
def tU (v : Value) (b : List Nat) : Thing := ⟨fun w => Rd w 1 v b.length (us b), if b.length = 0 then [] else own v, fun _ _ _ h hk hn => rd_us h hk (fun h0 g hg => hn g (by rw [if_neg (by omega)]; exact hg)), fun w h g hg => by
  split at hg
  · simp at hg
  · exact rd_usl h (by omega) g hg⟩
/-- Numbers in a slice of the law's own. -/
def tS (v : Value) (b : List Nat) : Thing := ⟨fun w => Sl w 28 1 v b.length (us b), own v, fun _ _ _ h hk hn => h.touch hk hn, fun _ h => h.lt⟩
theorem tU_own {v : Value} {b : List Nat} : ∀ g ∈ (tU v b).B, g ∈ own v := fun g hg => by
  unfold tU at hg
  simp only at hg
  split at hg
  · simp at hg
  · exact hg
/-- A ledger beside other things. -/
def LL (w wk : World) (p : Nat) (σ : Ldg) (L : List Thing) : Prop := ∃ F, Sep w wk (tL p σ F :: L)
section
variable {w wk w' : World} {p : Nat} {σ τ : Ldg} {L : List Thing}
theorem LL.touch (h : LL w wk p σ L) : Touch [] w wk := let ⟨_, h⟩ := h; h.1
theorem LL.ok (h : LL w wk p σ L) : σ.Ok := let ⟨_, h⟩ := h; IsL.ok h.head
theorem LL.keep (h : LL w wk p σ L) (hk : Touch [] wk w') : LL w w' p σ L := let ⟨F, h⟩ := h; ⟨F, h.keep hk⟩
theorem LL.get {T : Thing} (h : LL w wk p σ L) (hT : T ∈ L) : T.P wk := let ⟨_, h⟩ := h; h.get (by simp [hT])
theorem LL.drop {T : Thing} (h : LL w wk p σ (T :: L)) : LL w wk p σ L := let ⟨F, h⟩ := h; ⟨F, h.swap.tail⟩
theorem LL.more (h : LL w wk p σ L) (hk : Touch [] wk w') (N : Thing) (hN : N.P w') (hB : ∀ g ∈ N.B, wk.heap.size ≤ g) : LL w w' p σ (N :: L) := let ⟨F, h⟩ := h; ⟨F, (h.new hk N hN hB).swap⟩
theorem LL.step {T N : Thing} (h : LL w wk p σ (T :: L)) (hk : Touch T.B wk w') (hN : N.P w') (hB : ∀ g ∈ N.B, g ∈ T.B ∨ wk.heap.size ≤ g) : LL w w' p σ (N :: L) := let ⟨F, h⟩ := h; ⟨F, (h.swap.step hk N hN hB).swap⟩
theorem LL.swap {S T : Thing} (h : LL w wk p σ (S :: T :: L)) : LL w wk p σ (T :: S :: L) := by
  obtain ⟨F, h⟩ := h
  obtain ⟨h1, h2, h3⟩ := h
  obtain ⟨h4, h5⟩ := List.pairwise_cons.1 h3
  have h6 := (Sep.swap (w := w) (wk := wk) (L := L) (S := S) (T := T) ⟨h1, fun U hU => h2 U (by simp at hU ⊢; rcases hU with h | h | h <;> simp [h]), h5⟩).2.2
  exact ⟨F, h1, fun U hU => h2 U (by simp at hU ⊢; rcases hU with h | h | h | h <;> simp [h]), List.pairwise_cons.2 ⟨fun U hU => h4 U (by simp at hU ⊢; rcases hU with h | h | h <;> simp [h]), h6⟩⟩
theorem ll_new (L : List Thing) (h : Sep w wk L) : Calls Try.prog 8 #[] wk fun e w' => ∃ p, e = .returned (.pointer (some ⟨p, 0, none⟩)) ∧ LL w w' p led0 L := by
  refine (newL_any wk).mono ?_
  rintro e w' ⟨p, F, rfl, k1, k2, k3⟩
  exact ⟨p, rfl, F, h.new k2 (tL p led0 F) k1 k3⟩
theorem ll_send (h : LL w wk p σ L) (s : Pkt) (hs : s.Ok) (hw1 : s.when_ ≤ 1099511627776) (hw2 : s.size ≤ 1099511627776) (ht : σ.tot < 100000) :
    Calls Try.prog 10 #[.pointer (some ⟨p, 0, none⟩), pktV s] wk fun e w' => e = .returned (.int .i64 (if sendBad σ s then 33 else 0)) ∧ LL w w' p (if sendBad σ s then σ else sentS σ s) L := by
  obtain ⟨F, h⟩ := h
  refine (send_any wk p F σ s h.head hs hw1 hw2 ht).mono ?_
  rintro e w' ⟨rfl, F', k1, k2, k3⟩
  exact ⟨rfl, F', h.step k2 (tL p _ F') k1 k3⟩
theorem ll_flight (h : LL w wk p σ L) : Calls Try.prog 17 #[.pointer (some ⟨p, 0, none⟩)] wk fun e w' => e = .returned (.int .i64 (flight σ.opens : Int)) ∧ LL w w' p σ L := by
  have hh := h
  obtain ⟨F, h⟩ := h
  refine (flight_any wk p F σ h.head).mono ?_
  rintro e w' ⟨rfl, k⟩
  exact ⟨rfl, hh.keep k⟩
theorem ll_rtt (h : LL w wk p σ L) : Calls Try.prog 16 #[.pointer (some ⟨p, 0, none⟩)] wk fun e w' => e = .returned (.tuple #[.int .u64 (σ.smooth : Int), .int .u64 (σ.varied : Int), .int .u64 (σ.least : Int)]) ∧ LL w w' p σ L := by
  have hh := h
  obtain ⟨F, h⟩ := h
  refine (rtt_any wk p F σ h.head).mono ?_
  rintro e w' ⟨rfl, k⟩
  exact ⟨rfl, hh.keep k⟩
theorem ll_largest (h : LL w wk p σ L) : Calls Try.prog 18 #[.pointer (some ⟨p, 0, none⟩)] wk fun e w' => e = .returned (.int .i64 σ.largest) ∧ LL w w' p σ L := by
  have hh := h
  obtain ⟨F, h⟩ := h
  refine (largest_any wk p F σ h.head).mono ?_
  rintro e w' ⟨rfl, rfl⟩
  exact ⟨rfl, hh⟩
theorem ll_open (h : LL w wk p σ L) : Calls Try.prog 19 #[.pointer (some ⟨p, 0, none⟩)] wk fun e w' => ∃ v, e = .returned v ∧ LL w w' p σ (tU v (pns σ.opens) :: L) := by
  have hh := h
  obtain ⟨F, h⟩ := h
  refine (open_any wk p F σ h.head).mono ?_
  rintro e w' ⟨v, rfl, k1, k2, k3⟩
  rw [← pns_len] at k1
  exact ⟨v, rfl, hh.more k2 (tU v (pns σ.opens)) k1 (fun g hg => k3 g (tU_own g hg))⟩
theorem ll_tick (h : LL w wk p σ L) (now : Nat) (hn : now < 18446744073709551616) :
    Calls Try.prog 20 #[.pointer (some ⟨p, 0, none⟩), .int .u64 (now : Int)] wk fun e w' => ∃ v, e = .returned v ∧ LL w w' p (lostS σ now) (tS v (pns (lostL σ now)) :: L) := by
  obtain ⟨F, h⟩ := h
  have hlt := h.head.lt
  refine (tick_any wk p F σ now h.head hn).mono ?_
  rintro e w' ⟨v, rfl, k1, ⟨F', g1, g2, g3⟩, k3⟩
  rw [← pns_len] at k1
  refine ⟨v, rfl, F', h.go g2 [tL p _ F', tS v _] ?_ ?_⟩
  · intro N hN
    simp at hN
    rcases hN with rfl | rfl
    · exact ⟨g1, fun g hg => .inl (g3 g hg)⟩
    · exact ⟨k1, fun g hg => .inr (k3 g hg)⟩
  · simp
    intro g hg hm
    have := hlt g (g3 g hg)
    have := k3 g hm
    omega
theorem ll_bad (h : LL w wk p σ L) (hT : Touch [] wk w') (ar : Option Addr) (c : Nat) (R : List Rng) (now delay : Nat) (hr : Rd w' 2 (.slice ar R.length c) R.length (cr R)) (hL : R.length ≤ 100000) (hb : ackBad σ R = true) :
    Calls Try.prog 12 #[.pointer (some ⟨p, 0, none⟩), .slice ar R.length c, .int .u64 (now : Int), .int .u64 (delay : Int)] w' fun e w2 => e = .returned (.tuple #[.slice none 0 0, .slice none 0 0, .int .i64 43]) ∧ LL w w2 p σ L := by
  have hh := h.keep hT
  obtain ⟨F, h⟩ := hh
  refine (ack_bad w' p F σ ar c R now delay h.head hr hL hb).mono ?_
  rintro e w2 ⟨rfl, k⟩
  exact ⟨rfl, F, h.keep k⟩
theorem ll_ack (h : LL w wk p σ L) (hT : Touch [] wk w') (ar : Option Addr) (c : Nat) (R : List Rng) (now delay : Nat) (hr : Rd w' 2 (.slice ar R.length c) R.length (cr R)) (hf : ∀ g ∈ own (.slice ar R.length c), (g < w.heap.size ∨ wk.heap.size ≤ g) ∧ g < w'.heap.size) (hL : R.length ≤ 100000) (hb : ackBad σ R = false) (hnow : now ≤ 1099511627776) (hdel : delay < 18446744073709551616) :
    Calls Try.prog 12 #[.pointer (some ⟨p, 0, none⟩), .slice ar R.length c, .int .u64 (now : Int), .int .u64 (delay : Int)] w' fun e w2 => ∃ v1 v2, e = .returned (.tuple #[v1, v2, .int .i64 0]) ∧ LL w w2 p (lostS (ackS σ R now delay) now) (tS v1 (pns (goneA σ R)) :: tS v2 (pns (lostL (ackS σ R now delay) now)) :: L) := by
  obtain ⟨F, h0⟩ := h
  have hlt0 := h0.head.lt
  have h := h0.keep hT
  have hlt := h.head.lt
  have hge := (h0.2.1 _ (List.mem_cons_self ..)).2
  refine (ack_good w' p F σ ar c R now delay h.head hr (fun g hg => ⟨(hf g hg).2, fun hm => by have := hge g hm; have := hlt0 g hm; have := (hf g hg).1; omega⟩) hL hb hnow hdel).mono ?_
  rintro e w2 ⟨v1, v2, rfl, k1, k2, ⟨F', g1, g2, g3⟩, k3, k4⟩
  rw [← pns_len] at k1 k2
  refine ⟨v1, v2, rfl, F', h.go g2 [tL p _ F', tS v1 _, tS v2 _] ?_ ?_⟩
  · intro N hN
    simp at hN
    rcases hN with rfl | rfl | rfl
    · exact ⟨g1, fun g hg => .inl (g3 g hg)⟩
    · exact ⟨k1, fun g hg => .inr (k3 g hg)⟩
    · exact ⟨k2, fun g hg => .inr (k4 g hg).1⟩
  · simp
    refine ⟨⟨fun g hg hm => ?_, fun g hg hm => ?_⟩, fun g hg hm => ?_⟩
    · have := hlt g (g3 g hg)
      have := k3 g hm
      omega
    · have := hlt g (g3 g hg)
      have := (k4 g hm).1
      omega
    · exact (k4 g hm).2 hg
end
end Go.Proofs.Ythnokfchebmjiaa
