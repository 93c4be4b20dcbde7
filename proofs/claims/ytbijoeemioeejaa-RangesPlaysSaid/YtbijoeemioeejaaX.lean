/- Two sets side by side: their contracts as moves of one state. Conditions: those of the moves. (Printed by gen21x.py.) -/
import Derived.Test.YtbijoeemioeejaaS
import Derived.Test.YtbijoeemioeejaaU
namespace Go.Proofs.Ytbijoeemioeejaa
open Go.RowKit

/-- The blocks of a list are as they were. -/
def Same (K : List Nat) (w w' : World) : Prop := ∀ k ∈ K, w'.heap[k]? = w.heap[k]?
theorem IsBlk.same {K : List Nat} {w w' : World} {k : Nat} {vs : List Value} {t : TypeId} (h : IsBlk w k vs t) (hs : Same K w w') (hk : k ∈ K) : IsBlk w' k vs t := by
  unfold IsBlk at *
  rw [hs k hk]; exact h
/-- Two sets, apart from one another, from all that was in the base world, and from the blocks of K. -/
def Two (wb w : World) (K : List Nat) (s : Nat) (ts : TypeId) (L : List Rng) (b r : Nat) (tr : TypeId) (M : List Rng) (c : Nat) : Prop :=
  ∃ F G, IsS w s ts F L b ∧ IsS w r tr G M c ∧ (∀ g ∈ F, wb.heap.size ≤ g) ∧ (∀ g ∈ G, wb.heap.size ≤ g) ∧ (∀ g ∈ F, g ∉ G) ∧ (∀ k ∈ K, k < w.heap.size ∧ k ∉ F ∧ k ∉ G) ∧ Touch [] wb w
section
variable {wb w w' : World} {K : List Nat} {s r : Nat} {ts tr : TypeId} {L M : List Rng} {b c : Nat}
theorem Two.symm (h : Two wb w K s ts L b r tr M c) : Two wb w K r tr M c s ts L b := by
  obtain ⟨F, G, h1, h2, h3, h4, h5, h6, h7⟩ := h
  exact ⟨G, F, h2, h1, h4, h3, fun g hg hf => h5 g hf hg, fun k hk => ⟨(h6 k hk).1, (h6 k hk).2.2, (h6 k hk).2.1⟩, h7⟩
theorem Two.keep (h : Two wb w K s ts L b r tr M c) (k : Touch [] w w') : Two wb w' K s ts L b r tr M c := by
  obtain ⟨F, G, h1, h2, h3, h4, h5, h6, h7⟩ := h
  exact ⟨F, G, h1.keep k, h2.keep k, h3, h4, h5, fun i hi => ⟨Nat.lt_of_lt_of_le (h6 i hi).1 k.size, (h6 i hi).2⟩, h7.trans k (by simp)⟩
theorem Two.less {J : List Nat} (h : Two wb w K s ts L b r tr M c) (hj : ∀ k ∈ J, k ∈ K) : Two wb w J s ts L b r tr M c := by
  obtain ⟨F, G, h1, h2, h3, h4, h5, h6, h7⟩ := h
  exact ⟨F, G, h1, h2, h3, h4, h5, fun i hi => h6 i (hj i hi), h7⟩
theorem Two.alloc (h : Two wb w K s ts L b r tr M c) (o : Obj) : Two wb (w.alloc o) (w.heap.size :: K) s ts L b r tr M c := by
  obtain ⟨F, G, h1, h2, h3, h4, h5, h6, h7⟩ := h
  refine ⟨F, G, h1.keep ((Touch.refl _ _).alloc _), h2.keep ((Touch.refl _ _).alloc _), h3, h4, h5, fun i hi => ?_, h7.alloc _⟩
  rcases List.mem_cons.1 hi with rfl | hi
  · exact ⟨by simp, fun hm => by have := h1.lt _ hm; omega, fun hm => by have := h2.lt _ hm; omega⟩
  · exact ⟨by have := (h6 i hi).1; simp; omega, (h6 i hi).2⟩
theorem Two.base (h : Two wb w K s ts L b r tr M c) : Touch [] wb w := by
  obtain ⟨F, G, h1, h2, h3, h4, h5, h6, h7⟩ := h
  exact h7
theorem Two.ptr (h : Two wb w K s ts L b r tr M c) : V L b ∧ b ≤ mx ∧ V M c ∧ c ≤ mx := by
  obtain ⟨F, G, h1, h2, h3, h4, h5, h6, h7⟩ := h
  exact ⟨h1.v.1, h1.v.2, h2.v.1, h2.v.2⟩
theorem Two.new (w : World) (ts tr : TypeId) : Two w ((w.alloc (.cells #[.slice none 0 0, .int .u64 0] ts)).alloc (.cells #[.slice none 0 0, .int .u64 0] tr)) [] w.heap.size ts [] 0 (w.heap.size + 1) tr [] 0 := by
  refine ⟨[w.heap.size], [w.heap.size + 1], (IsS.new w ts).keep ((Touch.refl _ _).alloc _), ?_, by simp, by simp, by simp, by simp, ((Touch.refl _ _).alloc _).alloc _⟩
  have := IsS.new (w.alloc (.cells #[.slice none 0 0, .int .u64 0] ts)) tr
  rw [World.size_alloc] at this
  exact this
/-- A move of the first. -/
theorem Two.move {F G F' : List Nat} {L' : List Rng} {b' : Nat} (h2 : IsS w r tr G M c) (h3 : ∀ g ∈ F, wb.heap.size ≤ g) (h4 : ∀ g ∈ G, wb.heap.size ≤ g) (h5 : ∀ g ∈ F, g ∉ G) (h6 : ∀ k ∈ K, k < w.heap.size ∧ k ∉ F ∧ k ∉ G) (h7 : Touch [] wb w)
    (g1 : IsS w' s ts F' L' b') (g2 : Touch F w w') (g3 : ∀ g ∈ F', g ∈ F ∨ w.heap.size ≤ g) : Two wb w' K s ts L' b' r tr M c ∧ Same K w w' := by
  refine ⟨⟨F', G, g1, h2.touch g2 (fun g hg hf => h5 g hf hg), fun g hg => ?_, h4, fun g hg hG => ?_, fun k hk => ⟨Nat.lt_of_lt_of_le (h6 k hk).1 g2.size, fun hm => ?_, (h6 k hk).2.2⟩, h7.trans g2 (fun g hg => .inr (h3 g hg))⟩, fun k hk => g2.block k (h6 k hk).1 (h6 k hk).2.1⟩
  · rcases g3 g hg with h | h
    · exact h3 g h
    · exact Nat.le_trans h7.size h
  · rcases g3 g hg with h | h
    · exact h5 g h hG
    · have := h2.lt g hG; omega
  · rcases g3 k hm with h | h
    · exact (h6 k hk).2.1 h
    · have := (h6 k hk).1; omega

theorem Two.add (h : Two wb w K s 50 L b r tr M c) {a : Option Addr} {n cap : Nat} (ns : List Nat) (hv : Rd w 1 (.slice a n cap) n (us ns)) (hK : ∀ g ∈ own (.slice a n cap), g ∈ K) (hn : ns.length = n) (hb : L.length + n ≤ 1099511627776) (hlt : ∀ x ∈ ns, x < 18446744073709551616) :
    Calls Try.prog 9 #[.pointer (some ⟨s, 0, none⟩), .slice a n cap] w fun e w' => e = .returned (.int .i64 ((addL b ns (L, 0)).2 : Int)) ∧ Two wb w' K s 50 (addL b ns (L, 0)).1 b r tr M c ∧ Same K w w' := by
  obtain ⟨F, G, h1, h2, h3, h4, h5, h6, h7⟩ := h
  refine (add_any w s F L b a n cap ns h1 hv hn (fun g hg => (h6 g (hK g hg)).2.1) hb hlt).mono ?_
  rintro e w' ⟨rfl, F', g1, g2, g3⟩
  exact ⟨rfl, Two.move h2 h3 h4 h5 h6 h7 g1 g2 g3⟩
theorem Two.span (h : Two wb w K s 50 L b r tr M c) (f l : Nat) (hb : L.length ≤ 1099511627776) (hf : f < 18446744073709551616) (hl : l < 18446744073709551616) :
    Calls Try.prog 11 #[.pointer (some ⟨s, 0, none⟩), .agg #[.int .u64 (f : Int), .int .u64 (l : Int)]] w fun e w' => e = .returned (.tuple #[]) ∧ Two wb w' K s 50 (spOp L b f l) b r tr M c ∧ Same K w w' := by
  obtain ⟨F, G, h1, h2, h3, h4, h5, h6, h7⟩ := h
  refine (span_any w s F L b f l h1 hb hf hl).mono ?_
  rintro e w' ⟨rfl, F', g1, g2, g3⟩
  exact ⟨rfl, Two.move h2 h3 h4 h5 h6 h7 g1 g2 g3⟩
theorem Two.forget (h : Two wb w K s 50 L b r tr M c) (m : Nat) (hb : L.length ≤ 1099511627776) (hm : m ≤ mx) :
    Calls Try.prog 13 #[.pointer (some ⟨s, 0, none⟩), .int .u64 (m : Int)] w fun e w' => e = .returned (.tuple #[]) ∧ Two wb w' K s 50 (fgt L (max b m)) (max b m) r tr M c ∧ Same K w w' := by
  obtain ⟨F, G, h1, h2, h3, h4, h5, h6, h7⟩ := h
  refine (forget_any w s F L b m h1 hb hm).mono ?_
  rintro e w' ⟨rfl, F', g1, g2, g3⟩
  exact ⟨rfl, Two.move h2 h3 h4 h5 h6 h7 g1 g2 g3⟩
theorem Two.has (h : Two wb w K s 50 L b r tr M c) (n : Nat) :
    Calls Try.prog 15 #[.pointer (some ⟨s, 0, none⟩), .int .u64 (n : Int)] w fun e w' => e = .returned (.bool (hasB n L)) ∧ Touch [] w w' := by
  obtain ⟨F, G, h1, _⟩ := h
  exact has_any w s F L b n h1
theorem Two.count (h : Two wb w K s 50 L b r tr M c) :
    Calls Try.prog 17 #[.pointer (some ⟨s, 0, none⟩)] w fun e w' => e = .returned (.int .u64 (cnt L)) ∧ Touch [] w w' := by
  obtain ⟨F, G, h1, _⟩ := h
  exact count_any w s F L b h1
theorem Two.ranges (h : Two wb w K s 50 L b r tr M c) (most : Int) (hb : L.length ≤ 1099511627776) :
    Calls Try.prog 20 #[.pointer (some ⟨s, 0, none⟩), .int .i64 most] w fun e w' => ∃ v, e = .returned v ∧ Rd w' 2 v (L.reverse.take most.toNat).length (cr (L.reverse.take most.toNat)) ∧ Touch [] w w' ∧ ∀ g ∈ own v, w.heap.size ≤ g := by
  obtain ⟨F, G, h1, _⟩ := h
  refine (ranges_any w s F L b most h1 hb).mono ?_
  rintro e w' ⟨v, rfl, k1, k2, k3⟩
  exact ⟨v, rfl, k1.rd, k2, k3⟩

theorem Two.addR (h : Two wb w K s 30 L b r tr M c) {a : Option Addr} {n cap : Nat} (ns : List Nat) (hv : Rd w 1 (.slice a n cap) n (us ns)) (hK : ∀ g ∈ own (.slice a n cap), g ∈ K) (hn : ns.length = n) (hb : L.length + n ≤ 1099511627776) (hlt : ∀ x ∈ ns, x < 18446744073709551616) :
    Calls Try.prog 10 #[.pointer (some ⟨s, 0, none⟩), .slice a n cap] w fun e w' => e = .returned (.int .i64 ((addL b ns (L, 0)).2 : Int)) ∧ Two wb w' K s 30 (addL b ns (L, 0)).1 b r tr M c ∧ Same K w w' := by
  obtain ⟨F, G, h1, h2, h3, h4, h5, h6, h7⟩ := h
  refine (refAdd_any w s F L b a n cap ns h1 hv hn (fun g hg => ⟨(h6 g (hK g hg)).2.1, (h6 g (hK g hg)).1⟩) hb hlt).mono ?_
  rintro e w' ⟨rfl, F', g1, g2, g3⟩
  exact ⟨rfl, Two.move h2 h3 h4 h5 h6 h7 g1 g2 g3⟩
theorem Two.spanR (h : Two wb w K s 30 L b r tr M c) (f l : Nat) (hb : L.length ≤ 1099511627776) (hf : f < 18446744073709551616) (hl : l < 18446744073709551616) :
    Calls Try.prog 12 #[.pointer (some ⟨s, 0, none⟩), .agg #[.int .u64 (f : Int), .int .u64 (l : Int)]] w fun e w' => e = .returned (.tuple #[]) ∧ Two wb w' K s 30 (spOp L b f l) b r tr M c ∧ Same K w w' := by
  obtain ⟨F, G, h1, h2, h3, h4, h5, h6, h7⟩ := h
  refine (refSpan_any w s F L b f l h1 hb hf hl).mono ?_
  rintro e w' ⟨rfl, F', g1, g2, g3⟩
  exact ⟨rfl, Two.move h2 h3 h4 h5 h6 h7 g1 g2 g3⟩
theorem Two.forgetR (h : Two wb w K s 30 L b r tr M c) (m : Nat) (hb : L.length ≤ 1099511627776) (hm : m ≤ mx) :
    Calls Try.prog 14 #[.pointer (some ⟨s, 0, none⟩), .int .u64 (m : Int)] w fun e w' => e = .returned (.tuple #[]) ∧ Two wb w' K s 30 (fgt L (max b m)) (max b m) r tr M c ∧ Same K w w' := by
  obtain ⟨F, G, h1, h2, h3, h4, h5, h6, h7⟩ := h
  refine (refForget_any w s F L b m h1 hb hm).mono ?_
  rintro e w' ⟨rfl, F', g1, g2, g3⟩
  exact ⟨rfl, Two.move h2 h3 h4 h5 h6 h7 g1 g2 g3⟩
theorem Two.hasR (h : Two wb w K s 30 L b r tr M c) (n : Nat) :
    Calls Try.prog 16 #[.pointer (some ⟨s, 0, none⟩), .int .u64 (n : Int)] w fun e w' => e = .returned (.bool (hasB n L)) ∧ Touch [] w w' := by
  obtain ⟨F, G, h1, _⟩ := h
  exact refHas_any w s F L b n h1
theorem Two.countR (h : Two wb w K s 30 L b r tr M c) :
    Calls Try.prog 18 #[.pointer (some ⟨s, 0, none⟩)] w fun e w' => e = .returned (.int .u64 (cnt L)) ∧ Touch [] w w' := by
  obtain ⟨F, G, h1, _⟩ := h
  exact refCount_any w s F L b h1
theorem Two.rangesR (h : Two wb w K s 30 L b r tr M c) (most : Int) (hb : L.length ≤ 1099511627776) :
    Calls Try.prog 21 #[.pointer (some ⟨s, 0, none⟩), .int .i64 most] w fun e w' => ∃ v, e = .returned v ∧ Rd w' 2 v (L.reverse.take most.toNat).length (cr (L.reverse.take most.toNat)) ∧ Touch [] w w' ∧ ∀ g ∈ own v, w.heap.size ≤ g := by
  obtain ⟨F, G, h1, _⟩ := h
  refine (refRanges_any w s F L b most h1 hb).mono ?_
  rintro e w' ⟨v, rfl, k1, k2, k3⟩
  exact ⟨v, rfl, k1.rd, k2, k3⟩

theorem alike_same (w : World) (v1 v2 : Value) (xs : List Rng) (h1 : Rd w 2 v1 xs.length (cr xs)) (h2 : Rd w 2 v2 xs.length (cr xs)) (hl : xs.length ≤ 1099511627776) :
    Calls Try.prog 19 #[v1, v2] w fun e w' => e = .returned (.bool true) ∧ Touch [] w w' := by
  have := alike_any w v1 v2 xs xs h1 h2 hl hl
  rw [show decide (xs = xs) = true from by simp] at this
  exact this
/-- Numbers in a block of their own. -/
theorem rd_us (w : World) (ns : List Nat) : Rd (w.alloc (.cells (us ns).toArray 28)) 1 (.slice (Option.some ⟨w.heap.size, 0, none⟩) ns.length ns.length) ns.length (us ns) := by
  refine ⟨by rw [us_len, Nat.mul_one], .inr ⟨w.heap.size, 0, ns.length, rfl, Nat.le_refl _, fun _ => by simp, fun j _ => ?_⟩⟩
  rw [World.cell?_alloc_at (w := w) _ _ w.heap.size _ rfl, Nat.zero_add]
  simp
end
end Go.Proofs.Ytbijoeemioeejaa
