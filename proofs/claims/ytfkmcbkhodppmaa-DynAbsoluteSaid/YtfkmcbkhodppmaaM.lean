/- The two maps of a table, as plain functions of a field, of a name. Conditions: the texts take no more than any can. -/
import Derived.Test.YtfkmcbkhodppmaaA
import Derived.WalkKit
import Derived.ProofKit
import Derived.OpenShut
import Derived.ChangeSame
import Derived.DeepKeys4
import Derived.MapViews
import Derived.Maps.Own
import Derived.Maps.OwnSet
import Derived.Maps.OwnOps
import Derived.Maps.Views
import Derived.WideKeyEntry
namespace Go.Proofs.Ytfkmcbkhodppmaa
open Go.RowKit Go.Maps Go.WideMaps Go.ChangeShapes

theorem laidOutA : laidOutB Try.prog = true := by kernel_rfl
theorem und53 : Try.prog.underlying 53 = some (.map 26 34) := by kernel_rfl
theorem und54 : Try.prog.underlying 54 = some (.map 9 34) := by kernel_rfl
theorem c9 : Try.prog.cellsOf 9 = 1 := by kernel_rfl
theorem c26 : Try.prog.cellsOf 26 = 2 := by kernel_rfl
theorem row26 : (26 : TypeId) < Try.prog.types.size := of_decide_eq_true (by kernel_rfl)
theorem wide26 : (match Try.prog.underlying 26 with | some (.array _ _) | some (.struct _) => true | _ => false) = true := by kernel_rfl
theorem keyAt26 : Try.prog.keyTypeAt 2 26 = true := by kernel_rfl
theorem deep26 : Try.prog.keyTypeAt (Try.prog.types.size + 1) 26 = true := by kernel_rfl
theorem law26 : Keyed Try.prog 26 := Keyed.of_law (deep_law_laid laidOutA (m := 2) (by omega) row26 keyAt26 wide26)
theorem law9 : Keyed Try.prog 9 := string_keyed Try.underlying9
theorem zero34 (w : World) : (zeroValue 34).run Try.prog w = .ok (.int .u64 0) w := by kernel_rfl
theorem is_str26 : (match Try.prog.underlying 26 with | some (.struct fs) => (fs.toList.map fun f => (f.type, f.offset)) | _ => []) = [(9, 0), (9, 1)] := by kernel_rfl
theorem two_f {α : Type} (l : Array α) (h : l.size = 2) : ∃ a b, l = #[a, b] := by
  obtain ⟨l⟩ := l
  match l, h with
  | [a, b], _ => exact ⟨a, b, rfl⟩

def keyW (x : Fld) : Value := .agg #[.string x.1, .string x.2]
def OkW (x : Fld) : Prop := x.1.size ≤ maxLen ∧ x.2.size ≤ maxLen
theorem keyW_inj {x y : Fld} (h : keyW x = keyW y) : x = y := by
  obtain ⟨a, b⟩ := x
  obtain ⟨a', b'⟩ := y
  simp [keyW] at h
  simp [h]
theorem exW (x : Fld) (h : OkW x) : ∃ l, keyOf Try.prog 26 (keyW x) = some l := by
  have hq := is_str26
  have hw := wide26
  cases hu : Try.prog.underlying 26 with
  | none => rw [hu] at hq; cases hq
  | some kd =>
    rw [hu] at hq
    cases kd
    case struct fs =>
      simp only at hq
      obtain ⟨f0, f1, rfl⟩ := two_f fs (by have := congrArg List.length hq; simpa using this)
      simp at hq
      obtain ⟨⟨g1, g2⟩, g3, g4⟩ := hq
      have hk := trod_struct_mk (H := Unit) (enc := fun _ => ()) (w := default) (base := 0) (spare := fun _ => true) (held := true) (n := 1) (cs := [.string x.1, .string x.2])
        (xs := [(.lit (.string x.1.data.toList), []), (.lit (.string x.2.data.toList), [])]) hu (by simp [c26])
        (by simp [g1, g2, g3, g4, c9, DataW.trod, Try.underlying9, h.1, h.2])
      exact ⟨_, (keyOf_asKey (v := keyW x) deep26 wide26 (by simp [keyW, Value.formed, hu, c26]) ⟨_, by simpa [keyW, Value.cells] using hk⟩).1⟩
    all_goals simp at hq

def keyN (x : ByteArray) : Value := .string x
def OkN (x : ByteArray) : Prop := x.size ≤ maxLen
theorem keyN_inj {x y : ByteArray} (h : keyN x = keyN y) : x = y := by simpa [keyN] using h
theorem exN (x : ByteArray) (h : OkN x) : ∃ l, keyOf Try.prog 9 (keyN x) = some l := ⟨_, keyOf_string_mk Try.underlying9 h⟩
theorem neW {x y : Fld} {lx ly : Lit} (hx : keyOf Try.prog 26 (keyW x) = some lx) (hy : keyOf Try.prog 26 (keyW y) = some ly) (h : x ≠ y) : lx ≠ ly := by
  rintro rfl
  exact h (keyW_inj (law26.inj hx hy))

def updW (f : Fld → Option Int) (k : Fld) (v : Option Int) : Fld → Option Int := fun x => if x = k then v else f x
/-- Block b is a map of at most n entries that holds just what f says. -/
def IsW (w : World) (b n : Nat) (f : Fld → Option Int) : Prop :=
  ∃ D : DataW Unit, w.ownsMap Try.prog 26 (plainElem Try.prog 34) b n D ∧ IsMap D ∧ ∀ x l, keyOf Try.prog 26 (keyW x) = some l → Maps.has D l = (f x).isSome ∧ ∀ v, f x = some v → ∀ z, D.atKey l z = .lit (.int .u64 v)
section
variable {w w' : World} {b n : Nat} {f : Fld → Option Int}
theorem IsW.made (w : World) : IsW (w.alloc (.map #[] 0)) w.heap.size 0 fun _ => none :=
  ⟨.map [], World.ownsMap_made _ _ _ _, isMap_empty, fun x _ _ => ⟨rfl, fun v h => by cases h⟩⟩
theorem IsW.alloc (h : IsW w b n f) (o : Obj) : IsW (w.alloc o) b n f := let ⟨D, h1, h2, h3⟩ := h; ⟨D, h1.alloc o, h2, h3⟩
theorem IsW.drew (h : IsW w b n f) : IsW w.drew b n f := let ⟨D, h1, h2, h3⟩ := h; ⟨D, h1.drew, h2, h3⟩
theorem IsW.lt (h : IsW w b n f) : b < w.heap.size := let ⟨_, h1, _⟩ := h; h1.lt
theorem IsW.mono {m : Nat} (h : IsW w b n f) (hm : n ≤ m) : IsW w b m f := let ⟨D, h1, h2, h3⟩ := h; ⟨D, h1.mono hm, h2, h3⟩
theorem IsW.below {B : Nat} (h : IsW w b n f) (hb : Below B w w') (hB : b < B) : IsW w' b n f := by
  obtain ⟨D, ⟨es, clock, h0, h1⟩, h2, h3⟩ := h
  exact ⟨D, ⟨es, clock, (hb.block b hB).trans h0, h1⟩, h2, h3⟩
theorem IsW.store (h : IsW w b n f) (x : Fld) (hx : OkW x) (v : Int) (hv : (Lit.int .u64 v).wf = true) (hn : n < maxLen) :
    ∃ w', (Instr.mapUpdate 53 (.map (some b)) (keyW x) (.int .u64 v)).run Try.prog w = .ok () w' ∧ IsW w' b (n + 1) (updW f x (some v)) ∧ w.grownBy w' (some b) := by
  obtain ⟨D, h1, h2, h3⟩ := h
  obtain ⟨l, hl⟩ := exW x hx
  obtain ⟨w', hr, ho, hg⟩ := h1.update law26 und53 hn hl (plainElem_int Try.underlying34 hv)
  refine ⟨w', hr, ⟨_, ho, h2.put _ _, fun y m hy => ?_⟩, hg⟩
  by_cases e : y = x
  · subst e
    obtain rfl : m = l := by rw [hl] at hy; exact (Option.some.inj hy).symm
    refine ⟨by simp [updW, has_put_same h2 (law26.key hl)], fun v' hv' z => ?_⟩
    simp [updW] at hv'
    subst hv'
    exact atKey_put_same h2 (law26.key hl) _ _
  · have hne := neW hy hl e
    refine ⟨by rw [has_put_other hne]; simp [updW, e, (h3 y m hy).1], fun v' hv' z => ?_⟩
    simp [updW, e] at hv'
    rw [atKey_put_other hne]
    exact (h3 y m hy).2 v' hv' z
theorem IsW.drop (h : IsW w b n f) (x : Fld) (hx : OkW x) (ty : TypeId) :
    ∃ w', (Builtin.delete_ #[53, 26] ty #[.map (some b), keyW x]).run Try.prog w = .ok (.tuple #[]) w' ∧ IsW w' b n (updW f x none) ∧ w.mapTurned w' b := by
  obtain ⟨D, h1, h2, h3⟩ := h
  obtain ⟨l, hl⟩ := exW x hx
  obtain ⟨w', hr, ho, hg⟩ := h1.drop law26 und53 hl ty
  refine ⟨w', hr, ⟨_, ho, h2.del _, fun y m hy => ?_⟩, hg⟩
  by_cases e : y = x
  · subst e
    obtain rfl : m = l := by rw [hl] at hy; exact (Option.some.inj hy).symm
    exact ⟨by simp [updW, has_del_same], fun v' hv' z => by simp [updW] at hv'⟩
  · have hne := neW hy hl e
    refine ⟨by rw [has_del_other hne]; simp [updW, e, (h3 y m hy).1], fun v' hv' z => ?_⟩
    simp [updW, e] at hv'
    rw [atKey_del_other hne]
    exact (h3 y m hy).2 v' hv' z
theorem IsW.look (h : IsW w b n f) (x : Fld) (hx : OkW x) :
    (Instr.lookup 53 (.map (some b)) (keyW x) true).run Try.prog w = .ok (.tuple #[.int .u64 ((f x).getD 0), .bool (f x).isSome]) w := by
  obtain ⟨D, h1, h2, h3⟩ := h
  obtain ⟨l, hl⟩ := exW x hx
  obtain ⟨v, ps, hr, hv⟩ := h1.look_ok law26 und53 (zero34 w) (plainElem_int Try.underlying34 (by decide)) hl
  rw [hr, (h3 x l hl).1]
  cases hf : f x with
  | none =>
    have h4 : Maps.has D l = false := by rw [(h3 x l hl).1, hf]; rfl
    rw [atKey_of_not_has h4] at hv
    obtain ⟨a, rfl, e, _⟩ := plainElem_int_inv Try.underlying34 hv
    simp at e
    simp [e.1]
  | some c =>
    rw [(h3 x l hl).2 c hf] at hv
    obtain ⟨a, rfl, e, _⟩ := plainElem_int_inv Try.underlying34 hv
    simp at e
    simp [e.1]
end
theorem neN {x y : ByteArray} {lx ly : Lit} (hx : keyOf Try.prog 9 (keyN x) = some lx) (hy : keyOf Try.prog 9 (keyN y) = some ly) (h : x ≠ y) : lx ≠ ly := by
  rintro rfl
  exact h (keyN_inj (law9.inj hx hy))

def updN (f : ByteArray → Option Int) (k : ByteArray) (v : Option Int) : ByteArray → Option Int := fun x => if x = k then v else f x
/-- Block b is a map of at most n entries that holds just what f says. -/
def IsN (w : World) (b n : Nat) (f : ByteArray → Option Int) : Prop :=
  ∃ D : DataW Unit, w.ownsMap Try.prog 9 (plainElem Try.prog 34) b n D ∧ IsMap D ∧ ∀ x l, keyOf Try.prog 9 (keyN x) = some l → Maps.has D l = (f x).isSome ∧ ∀ v, f x = some v → ∀ z, D.atKey l z = .lit (.int .u64 v)
section
variable {w w' : World} {b n : Nat} {f : ByteArray → Option Int}
theorem IsN.made (w : World) : IsN (w.alloc (.map #[] 0)) w.heap.size 0 fun _ => none :=
  ⟨.map [], World.ownsMap_made _ _ _ _, isMap_empty, fun x _ _ => ⟨rfl, fun v h => by cases h⟩⟩
theorem IsN.alloc (h : IsN w b n f) (o : Obj) : IsN (w.alloc o) b n f := let ⟨D, h1, h2, h3⟩ := h; ⟨D, h1.alloc o, h2, h3⟩
theorem IsN.drew (h : IsN w b n f) : IsN w.drew b n f := let ⟨D, h1, h2, h3⟩ := h; ⟨D, h1.drew, h2, h3⟩
theorem IsN.lt (h : IsN w b n f) : b < w.heap.size := let ⟨_, h1, _⟩ := h; h1.lt
theorem IsN.mono {m : Nat} (h : IsN w b n f) (hm : n ≤ m) : IsN w b m f := let ⟨D, h1, h2, h3⟩ := h; ⟨D, h1.mono hm, h2, h3⟩
theorem IsN.below {B : Nat} (h : IsN w b n f) (hb : Below B w w') (hB : b < B) : IsN w' b n f := by
  obtain ⟨D, ⟨es, clock, h0, h1⟩, h2, h3⟩ := h
  exact ⟨D, ⟨es, clock, (hb.block b hB).trans h0, h1⟩, h2, h3⟩
theorem IsN.store (h : IsN w b n f) (x : ByteArray) (hx : OkN x) (v : Int) (hv : (Lit.int .u64 v).wf = true) (hn : n < maxLen) :
    ∃ w', (Instr.mapUpdate 54 (.map (some b)) (keyN x) (.int .u64 v)).run Try.prog w = .ok () w' ∧ IsN w' b (n + 1) (updN f x (some v)) ∧ w.grownBy w' (some b) := by
  obtain ⟨D, h1, h2, h3⟩ := h
  obtain ⟨l, hl⟩ := exN x hx
  obtain ⟨w', hr, ho, hg⟩ := h1.update law9 und54 hn hl (plainElem_int Try.underlying34 hv)
  refine ⟨w', hr, ⟨_, ho, h2.put _ _, fun y m hy => ?_⟩, hg⟩
  by_cases e : y = x
  · subst e
    obtain rfl : m = l := by rw [hl] at hy; exact (Option.some.inj hy).symm
    refine ⟨by simp [updN, has_put_same h2 (law9.key hl)], fun v' hv' z => ?_⟩
    simp [updN] at hv'
    subst hv'
    exact atKey_put_same h2 (law9.key hl) _ _
  · have hne := neN hy hl e
    refine ⟨by rw [has_put_other hne]; simp [updN, e, (h3 y m hy).1], fun v' hv' z => ?_⟩
    simp [updN, e] at hv'
    rw [atKey_put_other hne]
    exact (h3 y m hy).2 v' hv' z
theorem IsN.drop (h : IsN w b n f) (x : ByteArray) (hx : OkN x) (ty : TypeId) :
    ∃ w', (Builtin.delete_ #[54, 9] ty #[.map (some b), keyN x]).run Try.prog w = .ok (.tuple #[]) w' ∧ IsN w' b n (updN f x none) ∧ w.mapTurned w' b := by
  obtain ⟨D, h1, h2, h3⟩ := h
  obtain ⟨l, hl⟩ := exN x hx
  obtain ⟨w', hr, ho, hg⟩ := h1.drop law9 und54 hl ty
  refine ⟨w', hr, ⟨_, ho, h2.del _, fun y m hy => ?_⟩, hg⟩
  by_cases e : y = x
  · subst e
    obtain rfl : m = l := by rw [hl] at hy; exact (Option.some.inj hy).symm
    exact ⟨by simp [updN, has_del_same], fun v' hv' z => by simp [updN] at hv'⟩
  · have hne := neN hy hl e
    refine ⟨by rw [has_del_other hne]; simp [updN, e, (h3 y m hy).1], fun v' hv' z => ?_⟩
    simp [updN, e] at hv'
    rw [atKey_del_other hne]
    exact (h3 y m hy).2 v' hv' z
theorem IsN.look (h : IsN w b n f) (x : ByteArray) (hx : OkN x) :
    (Instr.lookup 54 (.map (some b)) (keyN x) true).run Try.prog w = .ok (.tuple #[.int .u64 ((f x).getD 0), .bool (f x).isSome]) w := by
  obtain ⟨D, h1, h2, h3⟩ := h
  obtain ⟨l, hl⟩ := exN x hx
  obtain ⟨v, ps, hr, hv⟩ := h1.look_ok law9 und54 (zero34 w) (plainElem_int Try.underlying34 (by decide)) hl
  rw [hr, (h3 x l hl).1]
  cases hf : f x with
  | none =>
    have h4 : Maps.has D l = false := by rw [(h3 x l hl).1, hf]; rfl
    rw [atKey_of_not_has h4] at hv
    obtain ⟨a, rfl, e, _⟩ := plainElem_int_inv Try.underlying34 hv
    simp at e
    simp [e.1]
  | some c =>
    rw [(h3 x l hl).2 c hf] at hv
    obtain ⟨a, rfl, e, _⟩ := plainElem_int_inv Try.underlying34 hv
    simp at e
    simp [e.1]
end
end Go.Proofs.Ytfkmcbkhodppmaa
