/- A script's acts as an argument; a field as an argument. Conditions: none of their own. -/
import Derived.Test.YtfkmcbkhodppmaaW
import Derived.ProofKit
import Derived.OpenShut
import Derived.ChangeSame
import Derived.ChangeSlices
import Derived.ChangeOld
import Derived.Deep.SlicePairs
namespace Go.Proofs.Ytfkmcbkhodppmaa
open Go.ChangeShapes Go.WideShapes Go.ChangeAt Go.RowKit Go.Deep

/-- A slice of structs, opened at every place. -/
theorem open_structs {H : Type} {enc : TypeId × Value → H} {P : Program} {w : World} {base : Nat} {spare : Nat → Bool} {held : Bool} {t e : TypeId} {fs : Array Field} {fuel : Nat} {cs : List Value} {x : DataW H × List MemPlace}
    (ht : P.underlying t = some (.slice e)) (he : P.underlying e = some (.struct fs)) (h : DataW.trod enc P w base spare held fuel t cs = some x) :
    cs = [.slice none 0 0] ∨ ∃ (a : Addr) (len cap : Nat), cs = [.slice (some a) len cap] ∧ len ≤ cap ∧ cap ≤ maxLen ∧ ∀ i, i < len → ∃ (cs' : List Value) (n : Nat), cs'.length = P.cellsOf e ∧ (∀ j, j < P.cellsOf e → w.cell? ((a.add (i * P.cellsOf e)).add j) = cs'[j]?) ∧
      ∀ (k : Nat) (f : Field), fs[k]? = some f → ∃ y, DataW.trod enc P w base spare held n f.type ((cs'.drop f.offset).take (P.cellsOf f.type)) = some y := by
  rcases open_slice ht h with ⟨h0, _⟩ | ⟨a, len, cap, m, n, D, Pl, rfl, hb, hl, hm, hmm, rfl, hx⟩
  · exact .inl h0
  refine .inr ⟨a, len, cap, rfl, hl, hm, fun i hi => ?_⟩
  have hlm : len ≤ m := by rw [hmm]; split <;> omega
  obtain ⟨cs', h1, h2⟩ := hx i (by omega)
  obtain ⟨_, hlen, hcell⟩ := World.cells?_some h1
  obtain ⟨xs, k, hk, hxy, _, hxl, hf⟩ := DataW.trod_struct he h2
  refine ⟨cs', k, hlen, fun j hj => ?_, fun j f hjf => ?_⟩
  · exact hcell j (by omega)
  · rw [hf j f hjf]
    have : j < xs.length := by rw [hxl]; exact (Array.getElem?_eq_some_iff.1 hjf).1
    exact ⟨_, List.getElem?_eq_getElem this⟩

def fldsOf (d : Option TypeDesc) : List (TypeId × Nat) := match d with | some (.struct fs) => (fs.toList.map fun f => (f.type, f.offset)) | _ => []
theorem fields_of {P : Program} {t : TypeId} {l : List (TypeId × Nat)} (h : fldsOf (P.underlying t) = l) (h0 : l ≠ []) :
    ∃ fs, P.underlying t = some (.struct fs) ∧ ∀ (k : Nat) (T o : Nat), l[k]? = some (T, o) → ∃ f : Field, fs[k]? = some f ∧ f.type = T ∧ f.offset = o := by
  cases hu : P.underlying t with
  | none => rw [hu] at h; exact absurd h.symm h0
  | some d =>
    rw [hu] at h
    cases d
    case struct fs =>
      simp only [fldsOf] at h
      refine ⟨fs, rfl, fun k T o hk => ?_⟩
      rw [← h] at hk
      simp at hk
      obtain ⟨f, h1, h2, h3⟩ := hk
      exact ⟨f, h1, h2, h3⟩
    all_goals exact absurd h.symm h0

structure Act5 where
  what : Int
  f : Fld
  n : Int
instance : Inhabited Act5 := ⟨⟨0, default, 0⟩⟩
theorem str46 : fldsOf (Try.prog.underlying 46) = [(5, 0), (26, 1), (3, 3)] := by kernel_rfl
theorem str26 : fldsOf (Try.prog.underlying 26) = [(9, 0), (9, 1)] := by kernel_rfl
theorem cells46 : Try.prog.cellsOf 46 = 4 := by kernel_rfl
theorem cells3 : Try.prog.cellsOf 3 = 1 := by kernel_rfl
theorem cells5 : Try.prog.cellsOf 5 = 1 := by kernel_rfl
theorem four_list {α : Type} (l : List α) (h : l.length = 4) : ∃ a b c d, l = [a, b, c, d] := by
  match l, h with
  | [a, b, c, d], _ => exact ⟨a, b, c, d, rfl⟩
/-- The slice at a holds the acts. -/
def IsActs (w : World) (a : Option Addr) (xs : List Act5) : Prop :=
  xs = [] ∨ ∃ bb off, a = some ⟨bb, off, none⟩ ∧ bb < w.heap.size ∧ ∀ i x, xs[i]? = some x → w.cell? ⟨bb, off + i * 4, none⟩ = some (.int .u8 x.what) ∧ w.cell? ⟨bb, off + i * 4 + 1, none⟩ = some (.string x.f.1) ∧ w.cell? ⟨bb, off + i * 4 + 2, none⟩ = some (.string x.f.2) ∧
    w.cell? ⟨bb, off + i * 4 + 3, none⟩ = some (.int .i64 x.n) ∧ OkW x.f ∧ (0 ≤ x.what ∧ x.what ≤ 255) ∧ -9223372036854775808 ≤ x.n ∧ x.n ≤ 9223372036854775807
theorem IsActs.keep {w w' : World} {a : Option Addr} {xs : List Act5} (h : IsActs w a xs) (hk : Touch [] w w') : IsActs w' a xs := by
  rcases h with rfl | ⟨bb, off, rfl, hl, hc⟩
  · exact .inl rfl
  · refine .inr ⟨bb, off, rfl, Nat.lt_of_lt_of_le hl hk.size, fun i x hx => ?_⟩
    obtain ⟨h1, h2, h3, h4, h5⟩ := hc i x hx
    exact ⟨hk.cell h1 (by simp), hk.cell h2 (by simp), hk.cell h3 (by simp), hk.cell h4 (by simp), h5⟩
section
variable {H : Type} {enc : TypeId × Value → H} {W : World} {base : Nat} {spare : Nat → Bool} {held : Bool}
theorem open_pair {n : Nat} {u v : Value} {y : DataW H × List MemPlace} (h : DataW.trod enc Try.prog W base spare held n 26 [u, v] = some y) :
    ∃ x : Fld, u = .string x.1 ∧ v = .string x.2 ∧ OkW x ∧ y = (.agg [.lit (.string x.1.data.toList), .lit (.string x.2.data.toList)], []) := by
  obtain ⟨fs, hu, hfs⟩ := fields_of str26 (by simp)
  obtain ⟨xs, k, hk, hxy, _, hxl, hf⟩ := DataW.trod_struct hu h
  obtain ⟨f0, g0, t0, o0⟩ := hfs 0 9 0 rfl
  obtain ⟨f1, g1, t1, o1⟩ := hfs 1 9 1 rfl
  have h2 : xs.length = 2 := by
    rw [hxl]
    have h := str26
    rw [hu] at h
    simpa [fldsOf] using congrArg List.length h
  obtain ⟨y0, y1, rfl⟩ := two_of xs h2
  have r0 := hf 0 f0 g0
  have r1 := hf 1 f1 g1
  rw [t0, o0, cells9] at r0
  rw [t1, o1, cells9] at r1
  simp at r0 r1
  obtain ⟨s0, e0, q0, w0⟩ := DataW.trod_string Try.underlying9 r0
  obtain ⟨s1, e1, q1, w1⟩ := DataW.trod_string Try.underlying9 r1
  simp at e0 e1
  subst e0 e1
  refine ⟨(s0, s1), rfl, rfl, ⟨w0, w1⟩, ?_⟩
  rw [hxy, q0, q1]
  rfl
theorem open_F {r : Reach} {b0 : Nat} {v : Value} {d : DataW H} {p : List MemPlace} (hv : Value.okWide Try.prog W r b0 26 v) (h : DataW.Trod enc Try.prog W base spare held 26 v d p) :
    ∃ x : Fld, v = .agg #[.string x.1, .string x.2] ∧ d = .agg [.lit (.string x.1.data.toList), .lit (.string x.2.data.toList)] ∧ p = [] ∧ OkW x := by
  obtain ⟨fs, hs, _⟩ := fields_of str26 (by simp)
  obtain ⟨cs, rfl, hsz⟩ := okWide_struct hs hv
  obtain ⟨c0, c1, rfl⟩ := two_f cs (hsz.trans c26)
  obtain ⟨fuel, hf⟩ := h
  obtain ⟨x, rfl, rfl, hok, hy⟩ := open_pair (by simpa [Value.cells] using hf)
  simp at hy
  exact ⟨x, rfl, hy.1, hy.2, hok⟩
theorem shut_F {x : Fld} (hx : OkW x) : DataW.Trod enc Try.prog W base spare held 26 (.agg #[.string x.1, .string x.2]) (.agg [.lit (.string x.1.data.toList), .lit (.string x.2.data.toList)]) [] := by
  have hq := is_str26
  cases hu : Try.prog.underlying 26 with
  | none => rw [hu] at hq; cases hq
  | some kd =>
    rw [hu] at hq
    cases kd
    case struct fs =>
      simp only at hq
      obtain ⟨f0, f1, rfl⟩ := two_f fs (by have := congrArg List.length hq; simpa using this)
      simp at hq
      obtain ⟨⟨g1, g2⟩, g3, g4⟩ := hq
      have hk := trod_struct_mk (enc := enc) (w := W) (base := base) (spare := spare) (held := held) (n := 1) (cs := [.string x.1, .string x.2])
        (xs := [(.lit (.string x.1.data.toList), []), (.lit (.string x.2.data.toList), [])]) hu (by simp [c26])
        (by simp [g1, g2, g3, g4, c9, DataW.trod, Try.underlying9, hx.1, hx.2])
      exact ⟨_, by simpa [Value.cells] using hk⟩
    all_goals simp at hq
end
theorem three_f {α : Type} (l : Array α) (h : l.size = 3) : ∃ a b c, l = #[a, b, c] := by
  obtain ⟨l⟩ := l
  match l, h with
  | [a, b, c], _ => exact ⟨a, b, c, rfl⟩
theorem three_list {α : Type} (l : List α) (h : l.length = 3) : ∃ a b c, l = [a, b, c] := by
  match l, h with
  | [a, b, c], _ => exact ⟨a, b, c, rfl⟩
theorem flds3 : ∃ f0 f1 f2, Try.prog.underlying 46 = some (.struct #[f0, f1, f2]) ∧ (f0.type = 5 ∧ f0.offset = 0) ∧ (f1.type = 26 ∧ f1.offset = 1) ∧ f2.type = 3 ∧ f2.offset = 3 := by
  have h := str46
  cases hu : Try.prog.underlying 46 with
  | none => rw [hu] at h; simp [fldsOf] at h
  | some d =>
    rw [hu] at h
    cases d
    case struct fs =>
      simp only [fldsOf] at h
      obtain ⟨a, b, c, rfl⟩ := three_f fs (by have := congrArg List.length h; simpa using this)
      simp at h
      exact ⟨a, b, c, rfl, h.1, h.2.1, h.2.2⟩
    all_goals simp [fldsOf] at h
theorem open_acts {H : Type} {enc : TypeId × Value → H} {W : World} {base : Nat} {v : Value} {d : DataW H} {p : List MemPlace} (hok : Value.okWide Try.prog W .any base 44 v)
    (h : DataW.Trod enc Try.prog W 0 (fun _ => true) true 44 v d p) (hz : ∀ n ∈ d.weights Try.prog 44, n ≤ reachBytes) :
    ∃ a xs cap, v = .slice a xs.length cap ∧ IsActs W a xs ∧ ∀ x ∈ xs, x.f.1.size ≤ 140737488355328 ∧ x.f.2.size ≤ 140737488355328 := by
  obtain ⟨a0, len0, cap0, rfl⟩ := okWide_slice Try.underlying44 hok
  obtain ⟨fuel, hf⟩ := h
  obtain ⟨f0, f1, f2, hu, ⟨t0, o0⟩, ⟨t1, o1⟩, t2, o2⟩ := flds3
  obtain ⟨p0, p1, hu2, q0, q1, s0, s1⟩ := flds2
  rcases open_slice Try.underlying44 hf with ⟨hcs, _⟩ | ⟨a, len, cap, m, n, D, Pl, hcs, hb, hl, hm, hmm, hx, hc⟩
  · simp [Value.cells] at hcs
    obtain ⟨rfl, rfl, rfl⟩ := hcs
    exact ⟨none, [], 0, rfl, .inl rfl, by simp⟩
  · simp [Value.cells] at hcs
    obtain ⟨rfl, rfl, rfl⟩ := hcs
    obtain ⟨hd, -⟩ := Prod.mk.inj hx
    subst hd
    have hmlen : len0 ≤ m := by rw [hmm]; split <;> omega
    rw [cells46] at hc
    have key : ∀ i, i < len0 → ∃ x : Act5, (W.cell? ((a.add (i * 4)).add 0) = some (.int .u8 x.what) ∧ W.cell? ((a.add (i * 4)).add 1) = some (.string x.f.1) ∧ W.cell? ((a.add (i * 4)).add 2) = some (.string x.f.2) ∧ W.cell? ((a.add (i * 4)).add 3) = some (.int .i64 x.n) ∧
        OkW x.f ∧ (0 ≤ x.what ∧ x.what ≤ 255) ∧ -9223372036854775808 ≤ x.n ∧ x.n ≤ 9223372036854775807) ∧ x.f.1.size ≤ 140737488355328 ∧ x.f.2.size ≤ 140737488355328 := by
      intro i hi
      obtain ⟨cs, hcl0, htr⟩ := hc i (by omega)
      obtain ⟨_, hcl, hcell⟩ := World.cells?_some hcl0
      obtain ⟨ys, k, hk, hxy, _, hyl, hfl⟩ := DataW.trod_struct hu htr
      obtain ⟨v0, v1, v2, v3, rfl⟩ := four_list cs hcl
      obtain ⟨y0, y1, y2, rfl⟩ := three_list ys (by simpa using hyl)
      have r0 := hfl 0 f0 rfl
      have r1 := hfl 1 f1 rfl
      have r2 := hfl 2 f2 rfl
      rw [t0, o0, cells5] at r0
      rw [t1, o1, c26] at r1
      rw [t2, o2, cells3] at r2
      simp at r0 r1 r2
      obtain ⟨k0, e0, g0, w0⟩ := DataW.trod_int Try.underlying5 r0
      obtain ⟨k1, e1, g2, w1⟩ := DataW.trod_int Try.underlying3 r2
      obtain ⟨x, rfl, rfl, hxo, g1⟩ := open_pair r1
      simp at e0 e1
      subst e0 e1
      have hD : D i = .agg [y0.1, .agg [.lit (.string x.1.data.toList), .lit (.string x.2.data.toList)], y2.1] := by
        have := (Prod.mk.inj hxy).1
        rw [this, g1]
        rfl
      have hmem : ∀ n, n ∈ (D i).weights Try.prog 46 → n ≤ reachBytes := by
        intro n hn
        refine hz n ?_
        simp only [DataW.weights, Try.underlying44, List.mem_cons, List.mem_append]
        right; left
        exact weightsAll_mem _ (List.mem_map.2 ⟨i, by simpa using hi, rfl⟩) hn
      have hw1 : x.1.data.toList.length ∈ (D i).weights Try.prog 46 := by
        rw [hD]
        simp [DataW.weights, hu, hu2, DataW.weightsEach, t0, t1, t2, s0, s1]
      have hw2 : x.2.data.toList.length ∈ (D i).weights Try.prog 46 := by
        rw [hD]
        simp [DataW.weights, hu, hu2, DataW.weightsEach, t0, t1, t2, s0, s1]
      have h1 := hmem _ hw1
      have h2 := hmem _ hw2
      simp [reachBytes] at h1 h2
      exact ⟨⟨k0, x, k1⟩, ⟨hcell 0 (by omega), hcell 1 (by omega), hcell 2 (by omega), hcell 3 (by omega), hxo, bounds_u8 w0, bounds_i64 w1⟩, by simp only; omega, by simp only; omega⟩
    obtain ⟨X, hX⟩ := choose_lt key
    refine ⟨some a, (List.range len0).map X, cap0, by simp, ?_, fun x hx => ?_⟩
    · by_cases h0 : len0 = 0
      · left; simp [h0]
      · right
        obtain ⟨b, off, spot⟩ := a
        have hc0 := (hX 0 (by omega)).1.1
        have hspot : spot = none := by simpa [Addr.add] using World.cell?_spot hc0
        subst hspot
        refine ⟨b, off, rfl, ?_, fun i x hx => ?_⟩
        · have := World.block_lt_of_cell? W _ hc0
          simpa [Addr.add] using this
        · have hi : i < len0 := by have := (List.getElem?_eq_some_iff.1 hx).1; simpa using this
          have hxe : x = X i := by simp [hi] at hx; exact hx.symm
          subst hxe
          have := (hX i hi).1
          simp only [Addr.add_lit, Nat.add_zero] at this
          exact this
    · obtain ⟨i, hi, rfl⟩ := List.mem_map.1 hx
      exact (hX i (by simpa using hi)).2
end Go.Proofs.Ytfkmcbkhodppmaa
