/- A script's acts as an argument. Conditions: none of their own. -/
import Derived.Test.YtbijoeemioeejaaZ
import Derived.Test.YtbijoeemioeejaaActs
namespace Go.Proofs.Ytbijoeemioeejaa
open Go.ChangeShapes Go.WideShapes Go.ChangeAt Go.RowKit Go.Deep

structure Act1 where
  what : Nat
  n : Nat
  m : Nat
theorem str32 : fldsOf (Try.prog.underlying 32) = [(5, 0), (28, 1), (28, 2)] := by kernel_rfl
/-- The slice at a holds the acts. -/
def IsActs (w : World) (a : Option Addr) (xs : List Act1) : Prop :=
  xs = [] ∨ ∃ bb off, a = some ⟨bb, off, none⟩ ∧ bb < w.heap.size ∧ ∀ i x, xs[i]? = some x → w.cell? ⟨bb, off + i * 3, none⟩ = some (.int .u8 (x.what : Int)) ∧ w.cell? ⟨bb, off + i * 3 + 1, none⟩ = some (.int .u64 (x.n : Int)) ∧ w.cell? ⟨bb, off + i * 3 + 2, none⟩ = some (.int .u64 (x.m : Int)) ∧
    x.what < 256 ∧ x.n < 18446744073709551616 ∧ x.m < 18446744073709551616
theorem IsActs.keep {w w' : World} {a : Option Addr} {xs : List Act1} (h : IsActs w a xs) (hk : Touch [] w w') : IsActs w' a xs := by
  rcases h with rfl | ⟨bb, off, rfl, hl, hc⟩
  · exact .inl rfl
  · refine .inr ⟨bb, off, rfl, Nat.lt_of_lt_of_le hl hk.size, fun i x hx => ?_⟩
    obtain ⟨h1, h2, h3, h4⟩ := hc i x hx
    exact ⟨hk.cell h1 (by simp), hk.cell h2 (by simp), hk.cell h3 (by simp), h4⟩
theorem open_acts {H : Type} {enc : TypeId × Value → H} {W : World} {base : Nat} {v : Value} {d : DataW H} {p : List MemPlace} (hok : Value.okWide Try.prog W .any base 22 v)
    (h : DataW.Trod enc Try.prog W 0 (fun _ => true) true 22 v d p) (_ : ∀ n ∈ d.weights Try.prog 22, n ≤ reachBytes) :
    ∃ a xs cap, v = .slice a xs.length cap ∧ IsActs W a xs := by
  obtain ⟨a0, len0, cap0, rfl⟩ := okWide_slice Try.underlying22 hok
  obtain ⟨fuel, hf⟩ := h
  obtain ⟨fs, hu, hfs⟩ := fields_of str32 (by simp)
  rcases open_structs Try.underlying22 hu hf with hcs | ⟨a, len, cap, hcs, hl, hm, hx⟩
  · simp [Value.cells] at hcs
    obtain ⟨rfl, rfl, rfl⟩ := hcs
    exact ⟨none, [], 0, rfl, .inl rfl⟩
  · simp [Value.cells] at hcs
    obtain ⟨rfl, rfl, rfl⟩ := hcs
    rw [show Try.prog.cellsOf 32 = 3 from by kernel_rfl] at hx
    have key : ∀ i, i < len0 → ∃ x : Act1, W.cell? ((a.add (i * 3)).add 0) = some (.int .u8 (x.what : Int)) ∧ W.cell? ((a.add (i * 3)).add 1) = some (.int .u64 (x.n : Int)) ∧ W.cell? ((a.add (i * 3)).add 2) = some (.int .u64 (x.m : Int)) ∧
        x.what < 256 ∧ x.n < 18446744073709551616 ∧ x.m < 18446744073709551616 := by
      intro i hi
      obtain ⟨cs, n, hcl, hcell, hfl⟩ := hx i hi
      obtain ⟨v0, v1, v2, rfl⟩ := three_list cs hcl
      obtain ⟨f0, g0, t0, o0⟩ := hfs 0 5 0 rfl
      obtain ⟨f1, g1, t1, o1⟩ := hfs 1 28 1 rfl
      obtain ⟨f2, g2, t2, o2⟩ := hfs 2 28 2 rfl
      obtain ⟨y0, r0⟩ := hfl 0 f0 g0
      obtain ⟨y1, r1⟩ := hfl 1 f1 g1
      obtain ⟨y2, r2⟩ := hfl 2 f2 g2
      rw [t0, o0, show Try.prog.cellsOf 5 = 1 from by kernel_rfl] at r0
      rw [t1, o1, show Try.prog.cellsOf 28 = 1 from by kernel_rfl] at r1
      rw [t2, o2, show Try.prog.cellsOf 28 = 1 from by kernel_rfl] at r2
      simp at r0 r1 r2
      obtain ⟨k0, e0, _, w0⟩ := DataW.trod_int Try.underlying5 r0
      obtain ⟨k1, e1, _, w1⟩ := DataW.trod_int Try.underlying28 r1
      obtain ⟨k2, e2, _, w2⟩ := DataW.trod_int Try.underlying28 r2
      simp at e0 e1 e2
      subst e0 e1 e2
      have b0 := bounds_u8 w0
      have b1 := bounds_u64 w1
      have b2 := bounds_u64 w2
      obtain ⟨k0, rfl⟩ := Int.eq_ofNat_of_zero_le b0.1
      obtain ⟨k1, rfl⟩ := Int.eq_ofNat_of_zero_le b1.1
      obtain ⟨k2, rfl⟩ := Int.eq_ofNat_of_zero_le b2.1
      exact ⟨⟨k0, k1, k2⟩, hcell 0 (by omega), hcell 1 (by omega), hcell 2 (by omega), by show k0 < 256; omega, by show k1 < _; omega, by show k2 < _; omega⟩
    have hne : Nonempty (Nat → Act1) := ⟨fun _ => ⟨0, 0, 0⟩⟩
    have : Inhabited Act1 := ⟨⟨0, 0, 0⟩⟩
    obtain ⟨X, hX⟩ := choose_lt key
    refine ⟨some a, (List.range len0).map X, cap0, by simp, ?_⟩
    by_cases h0 : len0 = 0
    · left; simp [h0]
    · right
      obtain ⟨b, off, spot⟩ := a
      have hc0 := (hX 0 (by omega)).1
      have hspot : spot = none := by simpa [Addr.add] using World.cell?_spot hc0
      subst hspot
      refine ⟨b, off, rfl, ?_, fun i x hx => ?_⟩
      · have := World.block_lt_of_cell? W _ hc0
        simpa [Addr.add] using this
      · have hi : i < len0 := by have := (List.getElem?_eq_some_iff.1 hx).1; simpa using this
        have hxe : x = X i := by simp [hi] at hx; exact hx.symm
        subst hxe
        have := hX i hi
        simp only [Addr.add_lit, Nat.add_zero] at this
        exact this
end Go.Proofs.Ytbijoeemioeejaa
