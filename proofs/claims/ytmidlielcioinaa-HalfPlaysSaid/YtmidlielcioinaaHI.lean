/- A script's acts as an argument. Conditions: none of their own. -/
import Derived.Test.YtmidlielcioinaaHO
import Derived.Test.YtmidlielcioinaaActs
namespace Go.Proofs.Ytmidlielcioinaa
open Go.ChangeShapes Go.WideShapes Go.ChangeAt Go.RowKit Go.Deep

structure Act5 where
  what : Nat
  off : Nat
  n : Int
  v : Value
  b : List Nat
  fin : Bool
theorem str47 : fldsOf (Try.prog.underlying 47) = [(5, 0), (27, 1), (3, 2), (22, 3), (4, 4)] := by kernel_rfl
/-- The slice at a holds the acts. -/
def IsActs (w : World) (a : Option Addr) (xs : List Act5) : Prop :=
  xs = [] ∨ ∃ bb off, a = some ⟨bb, off, none⟩ ∧ bb < w.heap.size ∧ ∀ i x, xs[i]? = some x → (w.cell? ⟨bb, off + i * 5, none⟩ = some (.int .u8 (x.what : Int)) ∧ w.cell? ⟨bb, off + i * 5 + 1, none⟩ = some (.int .u64 (x.off : Int)) ∧ w.cell? ⟨bb, off + i * 5 + 2, none⟩ = some (.int .i64 x.n) ∧ w.cell? ⟨bb, off + i * 5 + 3, none⟩ = some x.v ∧ w.cell? ⟨bb, off + i * 5 + 4, none⟩ = some (.bool x.fin)) ∧
    Rd w 1 x.v x.b.length (bs x.b) ∧ x.what < 256 ∧ x.off < 18446744073709551616 ∧ -9223372036854775808 ≤ x.n ∧ x.n ≤ 9223372036854775807
theorem IsActs.keep {w w' : World} {a : Option Addr} {xs : List Act5} (h : IsActs w a xs) (hk : Touch [] w w') : IsActs w' a xs := by
  rcases h with rfl | ⟨bb, off, rfl, hl, hc⟩
  · exact .inl rfl
  · refine .inr ⟨bb, off, rfl, Nat.lt_of_lt_of_le hl hk.size, fun i x hx => ?_⟩
    obtain ⟨⟨h1, h2, h3, h4, h5⟩, h6, h7⟩ := hc i x hx
    exact ⟨⟨hk.cell h1 (by simp), hk.cell h2 (by simp), hk.cell h3 (by simp), hk.cell h4 (by simp), hk.cell h5 (by simp)⟩, h6.touch hk (by simp), h7⟩
/-- Bytes, opened. -/
theorem open_bytes {H : Type} {enc : TypeId × Value → H} {W : World} {fuel : Nat} {v : Value} {y : DataW H × List MemPlace} (h : DataW.trod enc Try.prog W 0 (fun _ => true) true fuel 22 [v] = some y) :
    ∃ b : List Nat, Rd W 1 v b.length (bs b) := by
  rcases open_ints Try.underlying22 Try.underlying5 (by kernel_rfl) h with ⟨hcs, _⟩ | ⟨a, len, cap, zs, hcs, _, hl, hm, hlen, _, hc, hw⟩
  · simp at hcs
    exact ⟨[], rfl, .inl ⟨none, 0, hcs, rfl⟩⟩
  · simp at hcs
    have hle : len ≤ zs.length := by rw [hlen]; split <;> omega
    have hb : ∀ n ∈ zs.take len, 0 ≤ n ∧ n ≤ 255 := fun n hn => bounds_u8 (hw n (List.mem_of_mem_take hn))
    obtain ⟨ns, k1, k2, _⟩ := bs_of (zs.take len) hb
    have hnl : ns.length = len := by rw [← k1]; simp; omega
    refine ⟨ns, by simp [bs_len], ?_⟩
    rw [hnl, ← k2]
    obtain ⟨b, off, spot⟩ := a
    by_cases h0 : len = 0
    · subst h0
      exact .inl ⟨_, _, hcs, rfl⟩
    · have hc0 := hc 0 (by omega)
      have hspot : spot = none := by simpa [Addr.add] using World.cell?_spot hc0
      subst hspot
      refine .inr ⟨b, off, cap, hcs, hl, fun _ => ?_, fun j hj => ?_⟩
      · have := World.block_lt_of_cell? W _ hc0
        simpa [Addr.add] using this
      · have := hc j (by omega)
        rw [Addr.add_lit] at this
        rw [this]
        have hjl : j < zs.length := by omega
        simp [hjl, show j < len from by omega]
theorem five_list {α : Type} (l : List α) (h : l.length = 5) : ∃ a b c d e, l = [a, b, c, d, e] := by
  match l, h with
  | [a, b, c, d, e], _ => exact ⟨a, b, c, d, e, rfl⟩
theorem open_acts {H : Type} {enc : TypeId × Value → H} {W : World} {base : Nat} {v : Value} {d : DataW H} {p : List MemPlace} (hok : Value.okWide Try.prog W .any base 43 v)
    (h : DataW.Trod enc Try.prog W 0 (fun _ => true) true 43 v d p) (_ : ∀ n ∈ d.weights Try.prog 43, n ≤ reachBytes) :
    ∃ a xs cap, v = .slice a xs.length cap ∧ IsActs W a xs := by
  obtain ⟨a0, len0, cap0, rfl⟩ := okWide_slice Try.underlying43 hok
  obtain ⟨fuel, hf⟩ := h
  obtain ⟨fs, hu, hfs⟩ := fields_of str47 (by simp)
  rcases open_structs Try.underlying43 hu hf with hcs | ⟨a, len, cap, hcs, hl, hm, hx⟩
  · simp [Value.cells] at hcs
    obtain ⟨rfl, rfl, rfl⟩ := hcs
    exact ⟨none, [], 0, rfl, .inl rfl⟩
  · simp [Value.cells] at hcs
    obtain ⟨rfl, rfl, rfl⟩ := hcs
    rw [show Try.prog.cellsOf 47 = 5 from by kernel_rfl] at hx
    have key : ∀ i, i < len0 → ∃ x : Act5, (W.cell? ((a.add (i * 5)).add 0) = some (.int .u8 (x.what : Int)) ∧ W.cell? ((a.add (i * 5)).add 1) = some (.int .u64 (x.off : Int)) ∧ W.cell? ((a.add (i * 5)).add 2) = some (.int .i64 x.n) ∧ W.cell? ((a.add (i * 5)).add 3) = some x.v ∧ W.cell? ((a.add (i * 5)).add 4) = some (.bool x.fin)) ∧
        Rd W 1 x.v x.b.length (bs x.b) ∧ x.what < 256 ∧ x.off < 18446744073709551616 ∧ -9223372036854775808 ≤ x.n ∧ x.n ≤ 9223372036854775807 := by
      intro i hi
      obtain ⟨cs, n, hcl, hcell, hfl⟩ := hx i hi
      obtain ⟨v0, v1, v2, v3, v4, rfl⟩ := five_list cs hcl
      obtain ⟨f0, g0, t0, o0⟩ := hfs 0 5 0 rfl
      obtain ⟨f1, g1, t1, o1⟩ := hfs 1 27 1 rfl
      obtain ⟨f2, g2, t2, o2⟩ := hfs 2 3 2 rfl
      obtain ⟨f3, g3, t3, o3⟩ := hfs 3 22 3 rfl
      obtain ⟨f4, g4, t4, o4⟩ := hfs 4 4 4 rfl
      obtain ⟨y0, r0⟩ := hfl 0 f0 g0
      obtain ⟨y1, r1⟩ := hfl 1 f1 g1
      obtain ⟨y2, r2⟩ := hfl 2 f2 g2
      obtain ⟨y3, r3⟩ := hfl 3 f3 g3
      obtain ⟨y4, r4⟩ := hfl 4 f4 g4
      rw [t0, o0, show Try.prog.cellsOf 5 = 1 from by kernel_rfl] at r0
      rw [t1, o1, show Try.prog.cellsOf 27 = 1 from by kernel_rfl] at r1
      rw [t2, o2, show Try.prog.cellsOf 3 = 1 from by kernel_rfl] at r2
      rw [t3, o3, show Try.prog.cellsOf 22 = 1 from by kernel_rfl] at r3
      rw [t4, o4, show Try.prog.cellsOf 4 = 1 from by kernel_rfl] at r4
      simp at r0 r1 r2 r3 r4
      obtain ⟨k0, e0, _, w0⟩ := DataW.trod_int Try.underlying5 r0
      obtain ⟨k1, e1, _, w1⟩ := DataW.trod_int Try.underlying27 r1
      obtain ⟨k2, e2, _, w2⟩ := DataW.trod_int Try.underlying3 r2
      obtain ⟨k4, e4, _⟩ := DataW.trod_bool Try.underlying4 r4
      obtain ⟨b, hb⟩ := open_bytes r3
      simp at e0 e1 e2 e4
      subst e0 e1 e2 e4
      have b0 := bounds_u8 w0
      have b1 := bounds_u64 w1
      have b2 := bounds_i64 w2
      obtain ⟨k0, rfl⟩ := Int.eq_ofNat_of_zero_le b0.1
      obtain ⟨k1, rfl⟩ := Int.eq_ofNat_of_zero_le b1.1
      exact ⟨⟨k0, k1, k2, v3, b, k4⟩, ⟨hcell 0 (by omega), hcell 1 (by omega), hcell 2 (by omega), hcell 3 (by omega), hcell 4 (by omega)⟩, hb, by show k0 < 256; omega, by show k1 < _; omega, by show _ ≤ k2; omega, by show k2 ≤ _; omega⟩
    have hne : Nonempty (Nat → Act5) := ⟨fun _ => ⟨0, 0, 0, .slice none 0 0, [], false⟩⟩
    have : Inhabited Act5 := ⟨⟨0, 0, 0, .slice none 0 0, [], false⟩⟩
    obtain ⟨X, hX⟩ := choose_lt key
    refine ⟨some a, (List.range len0).map X, cap0, by simp, ?_⟩
    by_cases h0 : len0 = 0
    · left; simp [h0]
    · right
      obtain ⟨b, off, spot⟩ := a
      have hc0 := (hX 0 (by omega)).1.1
      have hspot : spot = none := by simpa [Addr.add] using World.cell?_spot hc0
      subst hspot
      refine ⟨b, off, rfl, ?_, fun i x hx => ?_⟩
      · have := World.block_lt_of_cell? W _ hc0
        simpa [Addr.add] using this
      · have hi : i < len0 := by have := (List.getElem?_eq_some_iff.1 hx).1; simpa using this
        have hxe : x = X i := by simp [hi] at hx; exact hx.symm
        subst hxe
        have := hX i hi
        simp only [Addr.add_lit, Nat.add_zero] at this
        exact this
end Go.Proofs.Ytmidlielcioinaa
