/- A script's acts as an argument; texts of bytes. Conditions: none of their own. -/
import Derived.Test.YtaklbobmbobcaaaG
import Derived.ProofKit
import Derived.OpenShut
import Derived.ChangeSame
import Derived.ChangeSlices
import Derived.Deep.SlicePairs
namespace Go.Proofs.Ytaklbobmbobcaaa
open Go.ChangeShapes Go.WideShapes Go.ChangeAt Go.RowKit Go.Deep

theorem str_size (l : List UInt8) : (str l).size = l.length := by simp [str, ByteArray.size]
theorem str_ext {a b : ByteArray} (h : a.data.toList = b.data.toList) : a = b := by
  cases a
  cases b
  simp at h
  rw [h]
theorem str_data (l : List UInt8) : (str l).data.toList = l := rfl
theorem str_append (l m : List UInt8) : str l ++ str m = str (l ++ m) := by
  apply str_ext
  rw [ByteArray.data_append]
  simp [str]
theorem str_extract (l : List UInt8) (a b : Nat) : (str l).extract a b = str ((l.take b).drop a) := by
  apply str_ext
  rw [ByteArray.data_extract]
  simp only [str, List.extract_toArray, List.extract_eq_take_drop]
  rw [← List.drop_take]

/-- A slice of structs, opened at every place. -/
theorem open_structs {H : Type} {enc : TypeId × Value → H} {P : Program} {w : World} {base : Nat} {spare : Nat → Bool} {held : Bool} {t e : TypeId} {fs : Array Field} {fuel : Nat} {cs : List Value} {x : DataW H × List MemPlace}
    (ht : P.underlying t = some (.slice e)) (he : P.underlying e = some (.struct fs)) (h : DataW.trod enc P w base spare held fuel t cs = some x) :
    cs = [.slice none 0 0] ∨ ∃ (a : Addr) (len cap : Nat), cs = [.slice (some a) len cap] ∧ len ≤ cap ∧ cap ≤ maxLen ∧ ∀ i, i < len → ∃ (cs' : List Value) (n : Nat), cs'.length = P.cellsOf e ∧ (∀ j, j < P.cellsOf e → w.cell? ((a.add (i * P.cellsOf e)).add j) = cs'[j]?) ∧
      ∀ (k : Nat) (f : Field), fs[k]? = some f → ∃ y, DataW.trod enc P w base spare held n f.type ((cs'.drop f.offset).take (P.cellsOf f.type)) = some y := by
  rcases open_slice ht h with ⟨h0, _⟩ | ⟨a, len, cap, m, n, D, Pl, rfl, hb, hl, hm, hmm, rfl, hx⟩
  · exact .inl h0
  refine .inr ⟨a, len, cap, rfl, hl, hm, fun i hi => ?_⟩
  have hlm : len ≤ m := by rw [hmm]; split <;> omega
  obtain ⟨cs', h1, h2⟩ := hx i (by omega)
  obtain ⟨_, hlen, hcell⟩ := World.cells?_some h1
  obtain ⟨xs, k, hk, hxy, _, hxl, hf⟩ := DataW.trod_struct he h2
  refine ⟨cs', k, hlen, fun j hj => ?_, fun j f hjf => ?_⟩
  · exact hcell j (by omega)
  · rw [hf j f hjf]
    have : j < xs.length := by rw [hxl]; exact (Array.getElem?_eq_some_iff.1 hjf).1
    exact ⟨_, List.getElem?_eq_getElem this⟩

def fldsOf (d : Option TypeDesc) : List (TypeId × Nat) := match d with | some (.struct fs) => (fs.toList.map fun f => (f.type, f.offset)) | _ => []
theorem fields_of {P : Program} {t : TypeId} {l : List (TypeId × Nat)} (h : fldsOf (P.underlying t) = l) (h0 : l ≠ []) :
    ∃ fs, P.underlying t = some (.struct fs) ∧ ∀ (k : Nat) (T o : Nat), l[k]? = some (T, o) → ∃ f : Field, fs[k]? = some f ∧ f.type = T ∧ f.offset = o := by
  cases hu : P.underlying t with
  | none => rw [hu] at h; exact absurd h.symm h0
  | some d =>
    rw [hu] at h
    cases d
    case struct fs =>
      simp only [fldsOf] at h
      refine ⟨fs, rfl, fun k T o hk => ?_⟩
      rw [← h] at hk
      simp at hk
      obtain ⟨f, h1, h2, h3⟩ := hk
      exact ⟨f, h1, h2, h3⟩
    all_goals exact absurd h.symm h0

structure Act3 where
  what : Int
  n : Int
  v : Value
  b : List UInt8
instance : Inhabited Act3 := ⟨⟨0, 0, .slice none 0 0, []⟩⟩
def actL : List (TypeId × Nat) := [(5, 0), (3, 1), (26, 2)]
theorem str28 : fldsOf (Try.prog.underlying 28) = actL := by kernel_rfl
theorem cells28 : Try.prog.cellsOf 28 = 3 := by kernel_rfl
theorem cells26 : Try.prog.cellsOf 26 = 1 := by kernel_rfl
theorem cells3 : Try.prog.cellsOf 3 = 1 := by kernel_rfl
theorem cells5 : Try.prog.cellsOf 5 = 1 := by kernel_rfl

/-- The slice at a holds the acts. -/
def IsActs (w : World) (a : Option Addr) (xs : List Act3) : Prop :=
  xs = [] ∨ ∃ bb off, a = some ⟨bb, off, none⟩ ∧ bb < w.heap.size ∧ ∀ i x, xs[i]? = some x → w.cell? ⟨bb, off + i * 3, none⟩ = some (.int .u8 x.what) ∧ w.cell? ⟨bb, off + i * 3 + 1, none⟩ = some (.int .i64 x.n) ∧ w.cell? ⟨bb, off + i * 3 + 2, none⟩ = some x.v ∧
    Rd w 1 x.v x.b.length (cb x.b) ∧ (0 ≤ x.what ∧ x.what ≤ 255) ∧ -9223372036854775808 ≤ x.n ∧ x.n ≤ 9223372036854775807
theorem IsActs.below {w w' : World} {a : Option Addr} {xs : List Act3} (h : IsActs w a xs) (hb : Below w.heap.size w w') : IsActs w' a xs := by
  rcases h with rfl | ⟨bb, off, rfl, hl, hc⟩
  · exact .inl rfl
  · refine .inr ⟨bb, off, rfl, Nat.lt_of_lt_of_le hl hb.size, fun i x hx => ?_⟩
    obtain ⟨h1, h2, h3, h4, h5⟩ := hc i x hx
    rw [(bcell hb).1 _ _ hl, (bcell hb).1 _ _ hl, (bcell hb).1 _ _ hl]
    exact ⟨h1, h2, h3, h4.keep hb, h5⟩

/-- Bytes, opened. -/
theorem open_bytes {H : Type} {enc : TypeId × Value → H} {W : World} {fuel : Nat} {v : Value} {y : DataW H × List MemPlace} (h : DataW.trod enc Try.prog W 0 (fun _ => true) true fuel 26 [v] = some y) :
    ∃ b : List UInt8, Rd W 1 v b.length (cb b) := by
  rcases open_ints Try.underlying26 Try.underlying5 cells5 h with ⟨hcs, _⟩ | ⟨a, len, cap, zs, hcs, _, hl, hm, hlen, _, hc, hw⟩
  · simp at hcs
    exact ⟨[], rfl, .inl ⟨none, 0, hcs, rfl⟩⟩
  · simp at hcs
    have hle : len ≤ zs.length := by rw [hlen]; split <;> omega
    have hb : ∀ n ∈ zs, 0 ≤ n ∧ n < 256 := fun n hn => by have := bounds_u8 (hw n hn); omega
    refine ⟨(zs.take len).map fun n => UInt8.ofNat n.toNat, by simp [cb], ?_⟩
    have hl2 : ((zs.take len).map fun n => UInt8.ofNat n.toNat).length = len := by simp; omega
    rw [hl2]
    obtain ⟨b, off, spot⟩ := a
    by_cases h0 : len = 0
    · subst h0
      exact .inl ⟨_, _, hcs, rfl⟩
    · have hc0 := hc 0 (by omega)
      have hspot : spot = none := by simpa [Addr.add] using World.cell?_spot hc0
      subst hspot
      refine .inr ⟨b, off, cap, hcs, hl, fun _ => ?_, fun j hj => ?_⟩
      · have := World.block_lt_of_cell? W _ hc0
        simpa [Addr.add] using this
      · have := hc j (by omega)
        rw [Addr.add_lit] at this
        rw [this]
        have hz := hb _ (getD_mem zs j (by omega))
        have hjl : j < zs.length := by omega
        have e : zs[j]?.getD 0 = zs[j] := by simp [hjl]
        simp [cb, hjl, show j < len from by omega]
        simp [hjl] at hz
        omega
theorem three_list {α : Type} (l : List α) (h : l.length = 3) : ∃ a b c, l = [a, b, c] := by
  match l, h with
  | [a, b, c], _ => exact ⟨a, b, c, rfl⟩
theorem open_acts {H : Type} {enc : TypeId × Value → H} {W : World} {base : Nat} {v : Value} {d : DataW H} {p : List MemPlace} (hok : Value.okWide Try.prog W .any base 22 v)
    (h : DataW.Trod enc Try.prog W 0 (fun _ => true) true 22 v d p) (_ : ∀ n ∈ d.weights Try.prog 22, n ≤ reachBytes) :
    ∃ a xs cap, v = .slice a xs.length cap ∧ IsActs W a xs := by
  obtain ⟨a0, len0, cap0, rfl⟩ := okWide_slice Try.underlying22 hok
  obtain ⟨fuel, hf⟩ := h
  obtain ⟨fs, hu, hfs⟩ := fields_of str28 (by simp [actL])
  rcases open_structs Try.underlying22 hu hf with hcs | ⟨a, len, cap, hcs, hl, hm, hx⟩
  · simp [Value.cells] at hcs
    obtain ⟨rfl, rfl, rfl⟩ := hcs
    exact ⟨none, [], 0, rfl, .inl rfl⟩
  · simp [Value.cells] at hcs
    obtain ⟨rfl, rfl, rfl⟩ := hcs
    rw [cells28] at hx
    have key : ∀ i, i < len0 → ∃ x : Act3, W.cell? ((a.add (i * 3)).add 0) = some (.int .u8 x.what) ∧ W.cell? ((a.add (i * 3)).add 1) = some (.int .i64 x.n) ∧ W.cell? ((a.add (i * 3)).add 2) = some x.v ∧
        Rd W 1 x.v x.b.length (cb x.b) ∧ (0 ≤ x.what ∧ x.what ≤ 255) ∧ -9223372036854775808 ≤ x.n ∧ x.n ≤ 9223372036854775807 := by
      intro i hi
      obtain ⟨cs, n, hcl, hcell, hfl⟩ := hx i hi
      obtain ⟨v0, v1, v2, rfl⟩ := three_list cs hcl
      obtain ⟨f0, g0, t0, o0⟩ := hfs 0 5 0 rfl
      obtain ⟨f1, g1, t1, o1⟩ := hfs 1 3 1 rfl
      obtain ⟨f2, g2, t2, o2⟩ := hfs 2 26 2 rfl
      obtain ⟨y0, r0⟩ := hfl 0 f0 g0
      obtain ⟨y1, r1⟩ := hfl 1 f1 g1
      obtain ⟨y2, r2⟩ := hfl 2 f2 g2
      rw [t0, o0, cells5] at r0
      rw [t1, o1, cells3] at r1
      rw [t2, o2, cells26] at r2
      simp at r0 r1 r2
      obtain ⟨k0, e0, _, w0⟩ := DataW.trod_int Try.underlying5 r0
      obtain ⟨k1, e1, _, w1⟩ := DataW.trod_int Try.underlying3 r1
      simp at e0 e1
      subst e0 e1
      obtain ⟨b, hb⟩ := open_bytes r2
      exact ⟨⟨k0, k1, v2, b⟩, hcell 0 (by omega), hcell 1 (by omega), hcell 2 (by omega), hb, bounds_u8 w0, bounds_i64 w1⟩
    obtain ⟨X, hX⟩ := choose_lt key
    refine ⟨some a, (List.range len0).map X, cap0, by simp, ?_⟩
    by_cases h0 : len0 = 0
    · left; simp [h0]
    · right
      obtain ⟨b, off, spot⟩ := a
      have hc0 := (hX 0 (by omega)).1
      have hspot : spot = none := by simpa [Addr.add] using World.cell?_spot hc0
      subst hspot
      refine ⟨b, off, rfl, ?_, fun i x hx => ?_⟩
      · have := World.block_lt_of_cell? W _ hc0
        simpa [Addr.add] using this
      · have hi : i < len0 := by have := (List.getElem?_eq_some_iff.1 hx).1; simpa using this
        have hxe : x = X i := by simp [hi] at hx; exact hx.symm
        subst hxe
        have := hX i hi
        simp only [Addr.add_lit, Nat.add_zero] at this
        exact this
end Go.Proofs.Ytaklbobmbobcaaa
