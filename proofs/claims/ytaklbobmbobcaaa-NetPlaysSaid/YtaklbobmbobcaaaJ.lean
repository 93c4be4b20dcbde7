/- A net beside a list of texts, and its functions' contracts there. Conditions: none of their own. -/
import Derived.Test.YtaklbobmbobcaaaI
namespace Go.Proofs.Ytaklbobmbobcaaa
open Go.RowKit

def sv (M : List (List UInt8)) : List Value := M.map fun b => .string (str b)
theorem sv_len (M : List (List UInt8)) : (sv M).length = M.length := by simp [sv]
theorem sv_one (M : List (List UInt8)) : ∀ u ∈ sv M, u.oneCell' = true := by
  intro u hu
  simp [sv] at hu
  obtain ⟨b, _, rfl⟩ := hu
  rfl
theorem sv_append (L M : List (List UInt8)) : sv (L ++ M) = sv L ++ sv M := by simp [sv]
theorem sv_erase (M : List (List UInt8)) (i : Nat) : sv (M.eraseIdx i) = (sv M).eraseIdx i := by simp only [sv, erase_map]

/-- The net holds L, the slice v the texts M. -/
def NetAt (w wr : World) (q : Nat) (L M : List (List UInt8)) (v : Value) : Prop :=
  ∃ K F, IsNet wr q K F L ∧ Sl wr 9 1 v M.length (sv M) ∧ (∀ g ∈ F, w.heap.size ≤ g) ∧ (∀ g ∈ own v, w.heap.size ≤ g ∧ g ∉ F) ∧ Touch [] w wr
section
variable {w wr w' : World} {q : Nat} {L M L' M' : List (List UInt8)} {v : Value}
theorem NetAt.keep (h : NetAt w wr q L M v) (hk : Touch [] wr w') : NetAt w w' q L M v :=
  let ⟨K, F, h1, h2, h3, h4, h5⟩ := h
  ⟨K, F, h1.keep hk, h2.touch hk (by simp), h3, h4, h5.trans hk (by simp)⟩
theorem NetAt.below (h : NetAt w wr q L M v) : Below w.heap.size w wr :=
  let ⟨_, _, _, _, _, _, h5⟩ := h
  h5.below (Nat.le_refl _) (by simp)
theorem NetAt.form (h : NetAt w wr q L M v) : ∃ a c, v = .slice a M.length c := by
  obtain ⟨K, F, h1, h2, _⟩ := h
  obtain ⟨a, c, he, _⟩ := h2.form
  exact ⟨a, c, he⟩
theorem NetAt.netted {K F K' F' : List Nat} (h1 : IsNet wr q K F L) (h2 : Sl wr 9 1 v M.length (sv M)) (h3 : ∀ g ∈ F, w.heap.size ≤ g) (h4 : ∀ g ∈ own v, w.heap.size ≤ g ∧ g ∉ F) (h5 : Touch [] w wr)
    (k1 : IsNet w' q K' F' L') (k2 : Touch K wr w') (k4 : Grow F F' wr) : NetAt w w' q L' M v := by
  have hs := h5.size
  have hsub := h1.sub
  refine ⟨K', F', k1, h2.touch k2 (fun g hg hm => (h4 g hg).2 (hsub g hm)), fun g hg => (k4 g hg).elim (h3 g) (fun h => by omega), fun g hg => ⟨(h4 g hg).1, fun hm => ?_⟩, h5.trans k2 (fun g hg => .inr (h3 g (hsub g hg)))⟩
  have := h2.lt g hg
  exact (k4 g hm).elim (h4 g hg).2 (fun h => by omega)
/-- The slice is another one. -/
theorem NetAt.turned {v' : Value} (h : NetAt w wr q L M v) (hv : Sl w' 9 1 v' M'.length (sv M')) (hT : Touch (own v) wr w') (ho : ∀ g ∈ own v', g ∈ own v ∨ wr.heap.size ≤ g) : NetAt w w' q L M' v' := by
  obtain ⟨K, F, h1, h2, h3, h4, h5⟩ := h
  have hs := h5.size
  have hlt := h1.lt
  exact ⟨K, F, h1.touch hT (fun g hg hm => (h4 g hm).2 hg), hv, h3, fun g hg => ⟨(ho g hg).elim (fun h => (h4 g h).1) (fun h => by omega), fun hm => (ho g hg).elim (fun h => (h4 g h).2 hm) (fun h => by have := hlt g hm; omega)⟩, h5.trans hT (fun g hg => .inr (h4 g hg).1)⟩

theorem net_len (h : NetAt w wr q L M v) : Calls Try.prog 16 #[.pointer (some ⟨q, 0, none⟩)] wr fun e w' => e = .returned (.int .i64 L.length) ∧ wr = w' := by
  obtain ⟨K, F, h1, _⟩ := h
  exact netLen_any wr q K F L h1
theorem net_pull_no (h : NetAt w wr q L M v) (i : Int) (hi : hasB i L.length = false) : Calls Try.prog 13 #[.pointer (some ⟨q, 0, none⟩), .int .i64 i] wr fun e w' => e = .returned (.tuple #[.slice none 0 0, .bool false]) ∧ wr = w' := by
  obtain ⟨K, F, h1, _⟩ := h
  exact netPull_no wr q K F L i h1 hi
theorem net_drop_no (h : NetAt w wr q L M v) (i : Int) (hi : hasB i L.length = false) : Calls Try.prog 14 #[.pointer (some ⟨q, 0, none⟩), .int .i64 i] wr fun e w' => e = .returned (.bool false) ∧ wr = w' := by
  obtain ⟨K, F, h1, _⟩ := h
  exact netDrop_no wr q K F L i h1 hi
theorem net_double_no (h : NetAt w wr q L M v) (i : Int) (hi : hasB i L.length = false) : Calls Try.prog 15 #[.pointer (some ⟨q, 0, none⟩), .int .i64 i] wr fun e w' => e = .returned (.bool false) ∧ wr = w' := by
  obtain ⟨K, F, h1, _⟩ := h
  exact netDouble_no wr q K F L i h1 hi
theorem net_pull_yes (h : NetAt w wr q L M v) (k : Nat) (hk : k < L.length) (hL : L.length ≤ 1099511627776) (b : List UInt8) (hb : L.getD k [] = b) :
    Calls Try.prog 13 #[.pointer (some ⟨q, 0, none⟩), .int .i64 (k : Int)] wr fun e w' => ∃ a c, e = .returned (.tuple #[.slice a b.length c, .bool true]) ∧ Rd w' 1 (.slice a b.length c) b.length (cb b) ∧ NetAt w w' q (L.eraseIdx k) M v := by
  obtain ⟨K, F, h1, h2, h3, h4, h5⟩ := h
  subst hb
  refine (netPull_yes wr q K F L k h1 hk hL).mono ?_
  rintro e w' ⟨a, c, F', rfl, r1, r2, k1, k2, k3⟩
  exact ⟨a, c, rfl, r1.rd, NetAt.netted h1 h2 h3 h4 h5 k1 k2 (fun g hg => .inl (k3 g hg))⟩
theorem net_drop_yes (h : NetAt w wr q L M v) (k : Nat) (hk : k < L.length) (hL : L.length ≤ 1099511627776) :
    Calls Try.prog 14 #[.pointer (some ⟨q, 0, none⟩), .int .i64 (k : Int)] wr fun e w' => e = .returned (.bool true) ∧ NetAt w w' q (L.eraseIdx k) M v := by
  obtain ⟨K, F, h1, h2, h3, h4, h5⟩ := h
  refine (netDrop_yes wr q K F L k h1 hk hL).mono ?_
  rintro e w' ⟨rfl, F', k1, k2, k3⟩
  exact ⟨rfl, NetAt.netted h1 h2 h3 h4 h5 k1 k2 (fun g hg => .inl (k3 g hg))⟩
theorem net_double_yes (h : NetAt w wr q L M v) (k : Nat) (hk : k < L.length) (hL : L.length + 1 ≤ 1099511627776) (hb : (L.getD k []).length ≤ 1099511627776) :
    Calls Try.prog 15 #[.pointer (some ⟨q, 0, none⟩), .int .i64 (k : Int)] wr fun e w' => e = .returned (.bool true) ∧ NetAt w w' q (L ++ [L.getD k []]) M v := by
  obtain ⟨K, F, h1, h2, h3, h4, h5⟩ := h
  refine (netDouble_yes wr q K F L k h1 hk hL hb).mono ?_
  rintro e w' ⟨rfl, K', F', k1, k2, k3, k4⟩
  exact ⟨rfl, NetAt.netted h1 h2 h3 h4 h5 k1 k2 k4⟩

/-- The net, the texts, and a row of bytes of the call's own. -/
def NetB (w wr : World) (q : Nat) (L M : List (List UInt8)) (v bv : Value) (n : Nat) : Prop :=
  ∃ (K F : List Nat) (ys : List Int), ys.length = n ∧ Sl wr 5 1 bv n (ys.map (Value.int .u8)) ∧ IsNet wr q K F L ∧ Sl wr 9 1 v M.length (sv M) ∧ (∀ g ∈ F, w.heap.size ≤ g) ∧ (∀ g ∈ own v, w.heap.size ≤ g ∧ g ∉ F) ∧ (∀ g ∈ own bv, w.heap.size ≤ g ∧ g ∉ F ∧ g ∉ own v) ∧ Touch [] w wr
theorem NetB.net {bv : Value} {n : Nat} (h : NetB w wr q L M v bv n) : NetAt w wr q L M v :=
  let ⟨K, F, _, _, _, h1, h2, h3, h4, _, h5⟩ := h
  ⟨K, F, h1, h2, h3, h4, h5⟩
theorem NetB.lies {a : Option Addr} {m c n : Nat} (h : NetB w wr q L M v (.slice a m c) n) (h0 : 0 < n) : ∃ g o, a = some ⟨g, o, none⟩ := by
  obtain ⟨K, F, ys, hy, h1, _⟩ := h
  rcases h1.cases with ⟨_, h2, _⟩ | ⟨g', off', cap', he, _⟩
  · omega
  · simp at he
    exact ⟨_, _, he.1⟩
theorem NetB.cell {g off c n : Nat} (h : NetB w wr q L M v (.slice (some ⟨g, off, none⟩) n c) n) (j : Nat) (hj : j < n) : (∃ y : Int, wr.cell? ⟨g, off + j, none⟩ = some (.int .u8 y)) ∧ wr.frozen? ⟨g, off + j, none⟩ = false := by
  obtain ⟨K, F, ys, hy, h1, _⟩ := h
  rcases h1.cases with ⟨h0, _⟩ | ⟨g', off', cap', he, hnc, _, _, hcell, hfr⟩
  · simp at h0
  simp at he
  obtain ⟨⟨rfl, rfl⟩, rfl⟩ := he
  refine ⟨⟨ys.getD j 0, ?_⟩, hfr (by omega) _⟩
  rw [hcell j (by omega)]
  simp [show j < ys.length from by omega]
theorem NetB.set {g off c n : Nat} (h : NetB w wr q L M v (.slice (some ⟨g, off, none⟩) n c) n) (j : Nat) (hj : j < n) (y : Int) : NetB w (wr.setCell ⟨g, off + j, none⟩ (.int .u8 y)) q L M v (.slice (some ⟨g, off, none⟩) n c) n := by
  obtain ⟨K, F, ys, hy, h1, h2, h3, h4, h5, h6, h7⟩ := h
  have hc : 0 < c := by
    rcases h1.cases with ⟨h0, _⟩ | ⟨g', off', cap', he, hnc, _⟩
    · simp at h0
    · simp at he
      omega
  have hg := h6 g (by rw [own_some _ _ _ hc]; simp)
  have hT : Touch [g] wr (wr.setCell ⟨g, off + j, none⟩ (.int .u8 y)) := (Touch.refl [g] _).set (p := ⟨g, off + j, none⟩) (.inl (by simp)) _
  refine ⟨K, F, ys.set j y, by simpa using hy, ?_, h2.touch hT (fun r hr hm => by simp at hm; exact hg.2.1 (hm ▸ hr)), h3.touch hT (fun r hr hm => by simp at hm; exact hg.2.2 (hm ▸ hr)), h4, h5, h6, h7.trans hT (by simp; omega)⟩
  rw [List.map_set]
  exact h1.set j _
/-- Two datagrams are pushed: bytes of the call's own, and one byte. -/
theorem net_push2 {w0 wk : World} {b : List UInt8} {a : Option Addr} {c : Nat} {u : Value} {d : List UInt8} {x : Value} (h : NetAt w w0 q L M v) (hk : Touch [] w0 wk) (hb : Sl wk 5 1 (.slice a b.length c) b.length (cb b)) (ho : ∀ g ∈ own (.slice a b.length c), w0.heap.size ≤ g)
    (hu : Rd wk 1 u d.length (cb d)) (hou : ∀ g ∈ own u, w0.heap.size ≤ g) (hx : Rd wk 1 x 2 [.slice a b.length c, u]) (hox : ∀ g ∈ own x, w0.heap.size ≤ g) (hl : L.length ≤ 1000) (hbl : b.length ≤ 1000) (hdl : d.length ≤ 1000) :
    Calls Try.prog 12 #[.pointer (some ⟨q, 0, none⟩), x] wk fun e w' => e = .returned (.tuple #[]) ∧ Sl w' 5 1 (.slice a b.length c) b.length (cb b) ∧ NetB w w' q (L ++ [b, d]) M v (.slice a b.length c) b.length := by
  obtain ⟨K, F, h1, h2, h3, h4, h5⟩ := h
  have hlt := h1.lt
  have hsub := h1.sub
  have hfar : ∀ g, w0.heap.size ≤ g → g ∉ K := fun g hg hm => by have := hlt g (hsub g hm); omega
  refine (netPush_any wk q K F L x [(.slice a b.length c, b), (u, d)] (h1.keep hk) hx (fun g hg => hfar g (hox g hg)) (fun y hy => ?_) (by simp; omega)).mono ?_
  · simp at hy
    rcases hy with rfl | rfl
    · exact ⟨hb.rd, fun g hg => hfar g (ho g hg), by show b.length ≤ _; omega⟩
    · exact ⟨hu, fun g hg => hfar g (hou g hg), by show d.length ≤ _; omega⟩
  rintro e w' ⟨rfl, K', F', k1, k2, k3, k4⟩
  have hS : Sl w' 5 1 (.slice a b.length c) b.length (cb b) := hb.touch k2 (fun g hg => hfar g (ho g hg))
  have hs5 := h5.size
  have hsk := hk.size
  obtain ⟨K2, F2, r1, r2, r3, r4, r5⟩ := NetAt.netted (M := M) (v := v) (h1.keep hk) (h2.touch hk (by simp)) h3 h4 (h5.trans hk (by simp)) k1 k2 k4
  refine ⟨rfl, hS, K', F', b.map fun x => (x.toNat : Int), by simp, by rw [← cb_ints]; exact hS, k1, (h2.touch hk (by simp)).touch k2 (fun g hg hm => (h4 g hg).2 (hsub g hm)), fun g hg => (k4 g hg).elim (h3 g) (fun h => by omega), fun g hg => ⟨(h4 g hg).1, fun hm => ?_⟩, fun g hg => ⟨by have := ho g hg; omega, fun hm => ?_, fun hm => ?_⟩, r5⟩
  · have := h2.lt g hg
    exact (k4 g hm).elim (h4 g hg).2 (fun h => by omega)
  · have e1 := ho g hg
    have e2 := hb.lt g hg
    rcases k4 g hm with h | h
    · have := hlt g h
      omega
    · omega
  · have e1 := ho g hg
    have e2 := h2.lt g hm
    omega
end
end Go.Proofs.Ytaklbobmbobcaaa
