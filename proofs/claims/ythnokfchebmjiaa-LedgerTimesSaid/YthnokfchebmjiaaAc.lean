/- A script's acts as an argument. Conditions: none of their own. -/
import Derived.Test.YthnokfchebmjiaaActs
namespace Go.Proofs.Ythnokfchebmjiaa
open Go.ChangeShapes Go.WideShapes Go.ChangeAt Go.RowKit Go.Deep

structure Act8 where
  what : Nat
  gap : Nat
  size : Nat
  eager : Bool
  v : Value
  R : List Rng
  raw : Bool
  time : Nat
  delay : Nat
def Act8.zero : Act8 := ⟨0, 0, 0, false, .slice none 0 0, [], false, 0, 0⟩
theorem str56 : fldsOf (Try.prog.underlying 56) = [(5, 0), (5, 1), (5, 2), (4, 3), (36, 4), (4, 5), (54, 6), (54, 7)] := by kernel_rfl
theorem str35 : fldsOf (Try.prog.underlying 35) = [(28, 0), (28, 1)] := by kernel_rfl
/-- The cells of an act. -/
def acells (x : Act8) : List Value := [.int .u8 (x.what : Int), .int .u8 (x.gap : Int), .int .u8 (x.size : Int), .bool x.eager, x.v, .bool x.raw, .int .u16 (x.time : Int), .int .u16 (x.delay : Int)]
def Act8.Ok (x : Act8) : Prop := x.what < 256 ∧ x.gap < 256 ∧ x.size < 256 ∧ x.time < 65536 ∧ x.delay < 65536 ∧ ∀ r ∈ x.R, r.1 < 18446744073709551616 ∧ r.2 < 18446744073709551616
/-- The slice at a holds the acts. -/
def IsActs (w : World) (a : Option Addr) (xs : List Act8) : Prop :=
  xs = [] ∨ ∃ bb off, a = some ⟨bb, off, none⟩ ∧ bb < w.heap.size ∧ ∀ i x, xs[i]? = some x → (∀ j, j < 8 → w.cell? ⟨bb, off + i * 8 + j, none⟩ = (acells x)[j]?) ∧ (Rd w 2 x.v x.R.length (cr x.R) ∧ ∀ g ∈ own x.v, 0 < x.R.length → g < w.heap.size) ∧ x.Ok
theorem IsActs.keep {w w' : World} {a : Option Addr} {xs : List Act8} (h : IsActs w a xs) (hk : Touch [] w w') : IsActs w' a xs := by
  rcases h with rfl | ⟨bb, off, rfl, hl, hc⟩
  · exact .inl rfl
  · refine .inr ⟨bb, off, rfl, Nat.lt_of_lt_of_le hl hk.size, fun i x hx => ?_⟩
    obtain ⟨h1, ⟨h2, h4⟩, h3⟩ := hc i x hx
    exact ⟨fun j hj => by rw [← h1 j hj]; exact hk.cellAt _ hl (by simp), ⟨h2.touch hk (by simp), fun g hg h0 => Nat.lt_of_lt_of_le (h4 g hg h0) hk.size⟩, h3⟩
theorem two_cells {l : List Value} (h : l.length = 2) : ∃ a b, l = [a, b] := by
  match l, h with
  | [a, b], _ => exact ⟨a, b, rfl⟩
theorem eight_cells {l : List Value} (h : l.length = 8) : ∃ a b c d e f g i, l = [a, b, c, d, e, f, g, i] := by
  match l, h with
  | [a, b, c, d, e, f, g, i], _ => exact ⟨a, b, c, d, e, f, g, i, rfl⟩
theorem cr_get : ∀ (l : List Rng) (i : Nat) (x : Rng), l[i]? = some x → ∀ j, j < 2 → (cr l)[i * 2 + j]? = [Value.int .u64 (x.1 : Int), Value.int .u64 (x.2 : Int)][j]? := fun l i x hx j hj => by
  have := cr_at l i x hx
  match j, hj with
  | 0, _ => exact this.1
  | 1, _ => exact this.2
/-- Ranges, opened. -/
theorem open_rngs {H : Type} {enc : TypeId × Value → H} {W : World} {fuel : Nat} {v : Value} {y : DataW H × List MemPlace} (h : DataW.trod enc Try.prog W 0 (fun _ => true) true fuel 36 [v] = some y) :
    ∃ R : List Rng, (Rd W 2 v R.length (cr R) ∧ ∀ g ∈ own v, 0 < R.length → g < W.heap.size) ∧ ∀ r ∈ R, r.1 < 18446744073709551616 ∧ r.2 < 18446744073709551616 := by
  obtain ⟨fs, hu, hfs⟩ := fields_of str35 (by simp)
  rcases open_structs Try.underlying36 hu h with hcs | ⟨a, len, cap, hcs, hl, hm, hx⟩
  · simp at hcs
    exact ⟨[], ⟨⟨rfl, .inl ⟨none, 0, hcs, rfl⟩⟩, by simp⟩, by simp⟩
  · simp at hcs
    rw [show Try.prog.cellsOf 35 = 2 from by kernel_rfl] at hx
    have key : ∀ i, i < len → ∃ x : Rng, (∀ j, j < 2 → W.cell? ((a.add (i * 2)).add j) = [Value.int .u64 (x.1 : Int), Value.int .u64 (x.2 : Int)][j]?) ∧ x.1 < 18446744073709551616 ∧ x.2 < 18446744073709551616 := by
      intro i hi
      obtain ⟨cs, n, hcl, hcell, hfl⟩ := hx i hi
      obtain ⟨v0, v1, rfl⟩ := two_cells hcl
      obtain ⟨f0, g0, t0, o0⟩ := hfs 0 28 0 rfl
      obtain ⟨f1, g1, t1, o1⟩ := hfs 1 28 1 rfl
      obtain ⟨y0, r0⟩ := hfl 0 f0 g0
      obtain ⟨y1, r1⟩ := hfl 1 f1 g1
      rw [t0, o0, show Try.prog.cellsOf 28 = 1 from by kernel_rfl] at r0
      rw [t1, o1, show Try.prog.cellsOf 28 = 1 from by kernel_rfl] at r1
      simp at r0 r1
      obtain ⟨k0, e0, _, w0⟩ := DataW.trod_int Try.underlying28 r0
      obtain ⟨k1, e1, _, w1⟩ := DataW.trod_int Try.underlying28 r1
      simp at e0 e1
      subst e0 e1
      have b0 := bounds_u64 w0
      have b1 := bounds_u64 w1
      obtain ⟨k0, rfl⟩ := Int.eq_ofNat_of_zero_le b0.1
      obtain ⟨k1, rfl⟩ := Int.eq_ofNat_of_zero_le b1.1
      exact ⟨(k0, k1), hcell, by show k0 < _; omega, by show k1 < _; omega⟩
    obtain ⟨X, hX⟩ := choose_lt key
    have hln : ((List.range len).map X).length = len := by simp
    refine ⟨(List.range len).map X, ?_, fun r hr => ?_⟩
    · rw [hln]
      by_cases h0 : len = 0
      · subst h0
        exact ⟨⟨by simp [cr], .inl ⟨_, _, hcs, rfl⟩⟩, fun g _ h => by omega⟩
      · obtain ⟨b, off, spot⟩ := a
        have hc0 := (hX 0 (by omega)).1 0 (by omega)
        have hspot : spot = none := by simpa [Addr.add] using World.cell?_spot hc0
        subst hspot
        have hlt : b < W.heap.size := by
          have := World.block_lt_of_cell? W _ hc0
          simpa [Addr.add] using this
        refine ⟨⟨by rw [cr_len, hln], .inr ⟨b, off, cap, hcs, hl, fun _ => hlt, fun j hj => ?_⟩⟩, fun g hg _ => by subst hcs; rw [(mem_own hg).1]; exact hlt⟩
        obtain ⟨i, j', hj', rfl⟩ : ∃ i j', j' < 2 ∧ j = i * 2 + j' := ⟨j / 2, j % 2, by omega, by omega⟩
        have hi : i < len := by omega
        have := (hX i hi).1 j' hj'
        simp only [Addr.add_lit] at this
        rw [← Nat.add_assoc, this, cr_get ((List.range len).map X) i (X i) (by simp [hi]) j' hj']
    · obtain ⟨i, hi, rfl⟩ := List.mem_map.1 hr
      exact (hX i (by simpa using hi)).2
theorem open_acts {H : Type} {enc : TypeId × Value → H} {W : World} {base : Nat} {v : Value} {d : DataW H} {p : List MemPlace} (hok : Value.okWide Try.prog W .any base 52 v)
    (h : DataW.Trod enc Try.prog W 0 (fun _ => true) true 52 v d p) (_ : ∀ n ∈ d.weights Try.prog 52, n ≤ reachBytes) :
    ∃ a xs cap, v = .slice a xs.length cap ∧ IsActs W a xs := by
  obtain ⟨a0, len0, cap0, rfl⟩ := okWide_slice Try.underlying52 hok
  obtain ⟨fuel, hf⟩ := h
  obtain ⟨fs, hu, hfs⟩ := fields_of str56 (by simp)
  rcases open_structs Try.underlying52 hu hf with hcs | ⟨a, len, cap, hcs, hl, hm, hx⟩
  · simp [Value.cells] at hcs
    obtain ⟨rfl, rfl, rfl⟩ := hcs
    exact ⟨none, [], 0, rfl, .inl rfl⟩
  · simp [Value.cells] at hcs
    obtain ⟨rfl, rfl, rfl⟩ := hcs
    rw [show Try.prog.cellsOf 56 = 8 from by kernel_rfl] at hx
    have key : ∀ i, i < len0 → ∃ x : Act8, (∀ j, j < 8 → W.cell? ((a.add (i * 8)).add j) = (acells x)[j]?) ∧ (Rd W 2 x.v x.R.length (cr x.R) ∧ ∀ g ∈ own x.v, 0 < x.R.length → g < W.heap.size) ∧ x.Ok := by
      intro i hi
      obtain ⟨cs, n, hcl, hcell, hfl⟩ := hx i hi
      obtain ⟨v0, v1, v2, v3, v4, v5, v6, v7, rfl⟩ := eight_cells hcl
      obtain ⟨f0, g0, t0, o0⟩ := hfs 0 5 0 rfl
      obtain ⟨f1, g1, t1, o1⟩ := hfs 1 5 1 rfl
      obtain ⟨f2, g2, t2, o2⟩ := hfs 2 5 2 rfl
      obtain ⟨f3, g3, t3, o3⟩ := hfs 3 4 3 rfl
      obtain ⟨f4, g4, t4, o4⟩ := hfs 4 36 4 rfl
      obtain ⟨f5, g5, t5, o5⟩ := hfs 5 4 5 rfl
      obtain ⟨f6, g6, t6, o6⟩ := hfs 6 54 6 rfl
      obtain ⟨f7, g7, t7, o7⟩ := hfs 7 54 7 rfl
      obtain ⟨y0, r0⟩ := hfl 0 f0 g0
      obtain ⟨y1, r1⟩ := hfl 1 f1 g1
      obtain ⟨y2, r2⟩ := hfl 2 f2 g2
      obtain ⟨y3, r3⟩ := hfl 3 f3 g3
      obtain ⟨y4, r4⟩ := hfl 4 f4 g4
      obtain ⟨y5, r5⟩ := hfl 5 f5 g5
      obtain ⟨y6, r6⟩ := hfl 6 f6 g6
      obtain ⟨y7, r7⟩ := hfl 7 f7 g7
      rw [t0, o0, show Try.prog.cellsOf 5 = 1 from by kernel_rfl] at r0
      rw [t1, o1, show Try.prog.cellsOf 5 = 1 from by kernel_rfl] at r1
      rw [t2, o2, show Try.prog.cellsOf 5 = 1 from by kernel_rfl] at r2
      rw [t3, o3, show Try.prog.cellsOf 4 = 1 from by kernel_rfl] at r3
      rw [t4, o4, show Try.prog.cellsOf 36 = 1 from by kernel_rfl] at r4
      rw [t5, o5, show Try.prog.cellsOf 4 = 1 from by kernel_rfl] at r5
      rw [t6, o6, show Try.prog.cellsOf 54 = 1 from by kernel_rfl] at r6
      rw [t7, o7, show Try.prog.cellsOf 54 = 1 from by kernel_rfl] at r7
      simp at r0 r1 r2 r3 r4 r5 r6 r7
      obtain ⟨k0, e0, _, w0⟩ := DataW.trod_int Try.underlying5 r0
      obtain ⟨k1, e1, _, w1⟩ := DataW.trod_int Try.underlying5 r1
      obtain ⟨k2, e2, _, w2⟩ := DataW.trod_int Try.underlying5 r2
      obtain ⟨k3, e3, _⟩ := DataW.trod_bool Try.underlying4 r3
      obtain ⟨R, hR⟩ := open_rngs r4
      obtain ⟨k5, e5, _⟩ := DataW.trod_bool Try.underlying4 r5
      obtain ⟨k6, e6, _, w6⟩ := DataW.trod_int Try.underlying54 r6
      obtain ⟨k7, e7, _, w7⟩ := DataW.trod_int Try.underlying54 r7
      simp at e0 e1 e2 e3 e5 e6 e7
      subst e0 e1 e2 e3 e5 e6 e7
      have b0 := bounds_u8 w0
      have b1 := bounds_u8 w1
      have b2 := bounds_u8 w2
      have b6 := bounds_u16 w6
      have b7 := bounds_u16 w7
      obtain ⟨k0, rfl⟩ := Int.eq_ofNat_of_zero_le b0.1
      obtain ⟨k1, rfl⟩ := Int.eq_ofNat_of_zero_le b1.1
      obtain ⟨k2, rfl⟩ := Int.eq_ofNat_of_zero_le b2.1
      obtain ⟨k6, rfl⟩ := Int.eq_ofNat_of_zero_le b6.1
      obtain ⟨k7, rfl⟩ := Int.eq_ofNat_of_zero_le b7.1
      exact ⟨⟨k0, k1, k2, k3, v4, R, k5, k6, k7⟩, hcell, hR.1, by show k0 < 256; omega, by show k1 < 256; omega, by show k2 < 256; omega, by show k6 < 65536; omega, by show k7 < 65536; omega, hR.2⟩
    have hne : Nonempty (Nat → Act8) := ⟨fun _ => Act8.zero⟩
    have : Inhabited Act8 := ⟨Act8.zero⟩
    obtain ⟨X, hX⟩ := choose_lt key
    refine ⟨some a, (List.range len0).map X, cap0, by simp, ?_⟩
    by_cases h0 : len0 = 0
    · left; simp [h0]
    · right
      obtain ⟨b, off, spot⟩ := a
      have hc0 := (hX 0 (by omega)).1 0 (by omega)
      have hspot : spot = none := by simpa [Addr.add] using World.cell?_spot hc0
      subst hspot
      refine ⟨b, off, rfl, ?_, fun i x hx => ?_⟩
      · have := World.block_lt_of_cell? W _ hc0
        simpa [Addr.add] using this
      · have hi : i < len0 := by have := (List.getElem?_eq_some_iff.1 hx).1; simpa using this
        have hxe : x = X i := by simp [hi] at hx; exact hx.symm
        subst hxe
        have := hX i hi
        simp only [Addr.add_lit] at this
        exact this
end Go.Proofs.Ythnokfchebmjiaa
