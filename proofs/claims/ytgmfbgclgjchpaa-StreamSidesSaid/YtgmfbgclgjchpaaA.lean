/- A map keyed by a state, a frame's kind and an end, as a plain function. Conditions: the keys' numbers fit their kinds. -/
import Derived.Test.YtgmfbgclgjchpaaBase
import Derived.WalkKit
import Derived.ProofKit
import Derived.OpenShut
import Derived.ChangeSame
import Derived.DeepKeys4
import Derived.MapViews
import Derived.Maps.Own
import Derived.Maps.OwnSet
import Derived.Maps.OwnOps
import Derived.Maps.Views
namespace Go.Proofs.Ytgmfbgclgjchpaa
open Go.RowKit Go.Maps Go.WideMaps Go.ChangeShapes

theorem laidOutA : laidOutB Try.prog = true := by kernel_rfl
theorem und3 : Try.prog.underlying 3 = some (.int .i64) := by kernel_rfl
theorem und5 : Try.prog.underlying 5 = some (.int .u8) := by kernel_rfl
theorem und4 : Try.prog.underlying 4 = some .bool := by kernel_rfl
theorem und36 : Try.prog.underlying 36 = some (.map 39 3) := by kernel_rfl
theorem c3 : Try.prog.cellsOf 3 = 1 := by kernel_rfl
theorem c4 : Try.prog.cellsOf 4 = 1 := by kernel_rfl
theorem c5 : Try.prog.cellsOf 5 = 1 := by kernel_rfl
theorem c39 : Try.prog.cellsOf 39 = 3 := by kernel_rfl
theorem row39 : (39 : TypeId) < Try.prog.types.size := of_decide_eq_true (by kernel_rfl)
theorem wide39 : (match Try.prog.underlying 39 with | some (.array _ _) | some (.struct _) => true | _ => false) = true := by kernel_rfl
theorem keyAt39 : Try.prog.keyTypeAt 2 39 = true := by kernel_rfl
theorem deep39 : Try.prog.keyTypeAt (Try.prog.types.size + 1) 39 = true := by kernel_rfl
theorem law39 : Keyed Try.prog 39 := Keyed.of_law (deep_law_laid laidOutA (m := 2) (by omega) row39 keyAt39 wide39)
theorem zero3 (w : World) : (zeroValue 3).run Try.prog w = .ok (.int .i64 0) w := by kernel_rfl

abbrev Mv := Int × Int × Bool
def keyV (x : Mv) : Value := .agg #[.int .i64 x.1, .int .u8 x.2.1, .bool x.2.2]
def OkM (x : Mv) : Prop := (Lit.int .i64 x.1).wf = true ∧ (Lit.int .u8 x.2.1).wf = true
theorem keyV_inj {x y : Mv} (h : keyV x = keyV y) : x = y := by
  obtain ⟨a, b, c⟩ := x
  obtain ⟨a', b', c'⟩ := y
  simp [keyV] at h
  simp [h]
theorem is_str39 : (match Try.prog.underlying 39 with | some (.struct fs) => (fs.toList.map fun f => (f.type, f.offset)) | _ => []) = [(3, 0), (5, 1), (4, 2)] := by kernel_rfl
theorem three_f {α : Type} (l : Array α) (h : l.size = 3) : ∃ a b c, l = #[a, b, c] := by
  obtain ⟨l⟩ := l
  match l, h with
  | [a, b, c], _ => exact ⟨a, b, c, rfl⟩
theorem key_ex (x : Mv) (h : OkM x) : ∃ l, keyOf Try.prog 39 (keyV x) = some l := by
  have hq := is_str39
  have hw := wide39
  cases hu : Try.prog.underlying 39 with
  | none => rw [hu] at hq; cases hq
  | some kd =>
    rw [hu] at hq
    cases kd
    case struct fs =>
      simp only at hq
      obtain ⟨f0, f1, f2, rfl⟩ := three_f fs (by have := congrArg List.length hq; simpa using this)
      simp at hq
      obtain ⟨⟨g1, g2⟩, ⟨g3, g4⟩, g5, g6⟩ := hq
      have hk := trod_struct_mk (H := Unit) (enc := fun _ => ()) (w := default) (base := 0) (spare := fun _ => true) (held := true) (n := 1) (cs := [.int .i64 x.1, .int .u8 x.2.1, .bool x.2.2])
        (xs := [(.lit (.int .i64 x.1), []), (.lit (.int .u8 x.2.1), []), (.lit (.bool x.2.2), [])]) hu (by simp [c39])
        (by simp [g1, g2, g3, g4, g5, g6, c3, c4, c5, DataW.trod, h.1, h.2])
      exact ⟨_, (keyOf_asKey (v := keyV x) deep39 wide39 (by simp [keyV, Value.formed, hu, c39]) ⟨_, by simpa [keyV, Value.cells] using hk⟩).1⟩
    all_goals simp at hq
theorem kl_ne {x y : Mv} {lx ly : Lit} (hx : keyOf Try.prog 39 (keyV x) = some lx) (hy : keyOf Try.prog 39 (keyV y) = some ly) (h : x ≠ y) : lx ≠ ly := by
  rintro rfl
  exact h (keyV_inj (law39.inj hx hy))

def upd (f : Mv → Option Int) (k : Mv) (v : Option Int) : Mv → Option Int := fun x => if x = k then v else f x
/-- Block b is a map of at most n entries that holds just what f says. -/
def IsM (w : World) (b n : Nat) (f : Mv → Option Int) : Prop :=
  ∃ D : DataW Unit, w.ownsMap Try.prog 39 (plainElem Try.prog 3) b n D ∧ IsMap D ∧ ∀ x l, keyOf Try.prog 39 (keyV x) = some l → Maps.has D l = (f x).isSome ∧ ∀ v, f x = some v → ∀ z, D.atKey l z = .lit (.int .i64 v)
section
variable {w w' : World} {b n : Nat} {f : Mv → Option Int}
theorem IsM.made (w : World) : IsM (w.alloc (.map #[] 0)) w.heap.size 0 fun _ => none :=
  ⟨.map [], World.ownsMap_made _ _ _ _, isMap_empty, fun x _ _ => ⟨rfl, fun v h => by cases h⟩⟩
theorem IsM.alloc (h : IsM w b n f) (o : Obj) : IsM (w.alloc o) b n f := let ⟨D, h1, h2, h3⟩ := h; ⟨D, h1.alloc o, h2, h3⟩
theorem IsM.drew (h : IsM w b n f) : IsM w.drew b n f := let ⟨D, h1, h2, h3⟩ := h; ⟨D, h1.drew, h2, h3⟩
theorem IsM.lt (h : IsM w b n f) : b < w.heap.size := let ⟨_, h1, _⟩ := h; h1.lt
theorem IsM.mono {m : Nat} (h : IsM w b n f) (hm : n ≤ m) : IsM w b m f := let ⟨D, h1, h2, h3⟩ := h; ⟨D, h1.mono hm, h2, h3⟩
theorem IsM.below {B : Nat} (h : IsM w b n f) (hb : Below B w w') (hB : b < B) : IsM w' b n f := by
  obtain ⟨D, ⟨es, clock, h0, h1⟩, h2, h3⟩ := h
  exact ⟨D, ⟨es, clock, (hb.block b hB).trans h0, h1⟩, h2, h3⟩
theorem IsM.store (h : IsM w b n f) (x : Mv) (hx : OkM x) (v : Int) (hv : (Lit.int .i64 v).wf = true) (hn : n < maxLen) :
    ∃ w', (Instr.mapUpdate 36 (.map (some b)) (keyV x) (.int .i64 v)).run Try.prog w = .ok () w' ∧ IsM w' b (n + 1) (upd f x (some v)) ∧ w.grownBy w' (some b) := by
  obtain ⟨D, h1, h2, h3⟩ := h
  obtain ⟨l, hl⟩ := key_ex x hx
  obtain ⟨w', hr, ho, hg⟩ := h1.update law39 und36 hn hl (plainElem_int und3 hv)
  refine ⟨w', hr, ⟨_, ho, h2.put _ _, fun y m hy => ?_⟩, hg⟩
  by_cases e : y = x
  · subst e
    obtain rfl : m = l := by rw [hl] at hy; exact (Option.some.inj hy).symm
    refine ⟨by simp [upd, has_put_same h2 (law39.key hl)], fun v' hv' z => ?_⟩
    simp [upd] at hv'
    subst hv'
    exact atKey_put_same h2 (law39.key hl) _ _
  · have hne := kl_ne hy hl e
    refine ⟨by rw [has_put_other hne]; simp [upd, e, (h3 y m hy).1], fun v' hv' z => ?_⟩
    simp [upd, e] at hv'
    rw [atKey_put_other hne]
    exact (h3 y m hy).2 v' hv' z
theorem IsM.drop (h : IsM w b n f) (x : Mv) (hx : OkM x) (ty : TypeId) :
    ∃ w', (Builtin.delete_ #[36, 39] ty #[.map (some b), keyV x]).run Try.prog w = .ok (.tuple #[]) w' ∧ IsM w' b n (upd f x none) ∧ w.mapTurned w' b := by
  obtain ⟨D, h1, h2, h3⟩ := h
  obtain ⟨l, hl⟩ := key_ex x hx
  obtain ⟨w', hr, ho, hg⟩ := h1.drop law39 und36 hl ty
  refine ⟨w', hr, ⟨_, ho, h2.del _, fun y m hy => ?_⟩, hg⟩
  by_cases e : y = x
  · subst e
    obtain rfl : m = l := by rw [hl] at hy; exact (Option.some.inj hy).symm
    exact ⟨by simp [upd, has_del_same], fun v' hv' z => by simp [upd] at hv'⟩
  · have hne := kl_ne hy hl e
    refine ⟨by rw [has_del_other hne]; simp [upd, e, (h3 y m hy).1], fun v' hv' z => ?_⟩
    simp [upd, e] at hv'
    rw [atKey_del_other hne]
    exact (h3 y m hy).2 v' hv' z
theorem IsM.look (h : IsM w b n f) (x : Mv) (hx : OkM x) :
    (Instr.lookup 36 (.map (some b)) (keyV x) true).run Try.prog w = .ok (.tuple #[.int .i64 ((f x).getD 0), .bool (f x).isSome]) w := by
  obtain ⟨D, h1, h2, h3⟩ := h
  obtain ⟨l, hl⟩ := key_ex x hx
  obtain ⟨v, ps, hr, hv⟩ := h1.look_ok law39 und36 (zero3 w) (plainElem_int und3 (by decide)) hl
  rw [hr, (h3 x l hl).1]
  cases hf : f x with
  | none =>
    have h4 : Maps.has D l = false := by rw [(h3 x l hl).1, hf]; rfl
    rw [atKey_of_not_has h4] at hv
    obtain ⟨a, rfl, e, _⟩ := plainElem_int_inv und3 hv
    simp at e
    simp [e.1]
  | some c =>
    rw [(h3 x l hl).2 c hf] at hv
    obtain ⟨a, rfl, e, _⟩ := plainElem_int_inv und3 hv
    simp at e
    simp [e.1]
end
end Go.Proofs.Ytgmfbgclgjchpaa
