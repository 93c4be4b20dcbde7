/- A map from numbers to packets, as a plain function. Conditions: the packets' numbers are numbers of their kinds. -/
import Derived.Test.YthnokfchebmjiaaT
import Derived.WalkKit
import Derived.ProofKit
import Derived.OpenShut
import Derived.ChangeSame
import Derived.MapViews
import Derived.Maps.Own
import Derived.Maps.OwnSet
import Derived.Maps.OwnOps
import Derived.Maps.Views
import Derived.Maps.RangeWalk
namespace Go.Proofs.Ythnokfchebmjiaa
open Go.RowKit Go.Maps Go.WideMaps Go.ChangeShapes

theorem und28 : Try.prog.underlying 28 = some (.int .u64) := by kernel_rfl
theorem und60 : Try.prog.underlying 60 = some (.map 28 30) := by kernel_rfl
theorem law28 : Keyed Try.prog 28 := int_keyed und28

structure Pkt where
  pn : Nat
  when_ : Nat
  size : Nat
  eager : Bool
def Pkt.Ok (s : Pkt) : Prop := s.pn < 18446744073709551616 ∧ s.when_ < 18446744073709551616 ∧ s.size < 9223372036854775808
def pktV (s : Pkt) : Value := .agg #[.int .u64 (s.pn : Int), .int .u64 (s.when_ : Int), .int .i64 (s.size : Int), .bool s.eager]
def pktD (s : Pkt) : DataW Unit := .agg [.lit (.int .u64 (s.pn : Int)), .lit (.int .u64 (s.when_ : Int)), .lit (.int .i64 (s.size : Int)), .lit (.bool s.eager)]
def noPkt : Pkt := ⟨0, 0, 0, false⟩
open Classical in
/-- How a packet reads. -/
noncomputable def pktR (v : Value) : Option (DataW Unit × List MemPlace) := if h : ∃ s, v = pktV s then some (pktD h.choose, []) else none
theorem pktV_inj {s t : Pkt} (h : pktV s = pktV t) : s = t := by
  obtain ⟨a, b, c, d⟩ := s
  obtain ⟨a', b', c', d'⟩ := t
  simp [pktV] at h
  simp [h]
  omega
theorem pktD_inj {s t : Pkt} (h : pktD s = pktD t) : s = t := by
  obtain ⟨a, b, c, d⟩ := s
  obtain ⟨a', b', c', d'⟩ := t
  simp [pktD] at h
  simp [h]
  omega
theorem pktR_mk (s : Pkt) : pktR (pktV s) = some (pktD s, []) := by
  unfold pktR
  have h : ∃ t, pktV s = pktV t := ⟨s, rfl⟩
  rw [dif_pos h, ← pktV_inj h.choose_spec]
theorem pktR_inv {v : Value} {y : DataW Unit × List MemPlace} (h : pktR v = some y) : ∃ s, v = pktV s ∧ y = (pktD s, []) := by
  unfold pktR at h
  split at h
  · next h1 => exact ⟨h1.choose, h1.choose_spec, (Option.some.inj h).symm⟩
  · cases h
theorem zero30 (w : World) : (zeroValue 30).run Try.prog w = .ok (pktV noPkt) w := by kernel_rfl
theorem wf_u64 {x : Nat} (h : x < 18446744073709551616) : (Lit.int .u64 (x : Int)).wf = true := by
  simp [Lit.wf, IntKind.min, IntKind.max, IntKind.bits, IntKind.signed]
  omega
theorem key28 {x : Nat} (h : x < 18446744073709551616) : keyOf Try.prog 28 (.int .u64 (x : Int)) = some (.int .u64 (x : Int)) := keyOf_int_mk und28 (wf_u64 h)

def upd (f : Nat → Option Pkt) (k : Nat) (v : Option Pkt) : Nat → Option Pkt := fun x => if x = k then v else f x
/-- Block b is a map of at most n entries that holds just what f says. -/
def IsM (w : World) (b n : Nat) (f : Nat → Option Pkt) : Prop :=
  ∃ D : DataW Unit, w.ownsMap Try.prog 28 pktR b n D ∧ IsMap D ∧ ∀ x : Nat, x < 18446744073709551616 → Maps.has D (.int .u64 (x : Int)) = (f x).isSome ∧ ∀ s, f x = some s → ∀ z, D.atKey (.int .u64 (x : Int)) z = pktD s
section
variable {w w' : World} {b n : Nat} {f : Nat → Option Pkt}
theorem IsM.made (w : World) : IsM (w.alloc (.map #[] 0)) w.heap.size 0 fun _ => none :=
  ⟨.map [], World.ownsMap_made _ _ _ _, isMap_empty, fun x _ => ⟨rfl, fun v h => by cases h⟩⟩
theorem IsM.lt (h : IsM w b n f) : b < w.heap.size := let ⟨_, h1, _⟩ := h; h1.lt
theorem IsM.mono {m : Nat} (h : IsM w b n f) (hm : n ≤ m) : IsM w b m f := let ⟨D, h1, h2, h3⟩ := h; ⟨D, h1.mono hm, h2, h3⟩
theorem IsM.touch {ks : List Nat} (h : IsM w b n f) (hk : Touch ks w w') (hb : b ∉ ks) : IsM w' b n f := by
  have hl := h.lt
  obtain ⟨D, ⟨es, clock, h0, h1⟩, h2, h3⟩ := h
  exact ⟨D, ⟨es, clock, (hk.block b hl hb).trans h0, h1⟩, h2, h3⟩
theorem touch_turned (h : w.mapTurned w' b) : Touch [b] w w' := by
  have := Touch.of_grown h.grown
  simpa using this
theorem IsM.store (h : IsM w b n f) (x : Nat) (hx : x < 18446744073709551616) (s : Pkt) (hn : n < maxLen) :
    ∃ w', (Instr.mapUpdate 60 (.map (some b)) (.int .u64 (x : Int)) (pktV s)).run Try.prog w = .ok () w' ∧ IsM w' b (n + 1) (upd f x (some s)) ∧ Touch [b] w w' := by
  obtain ⟨D, h1, h2, h3⟩ := h
  obtain ⟨w', hr, ho, hg⟩ := h1.store law28 und60 hn (key28 hx) (pktR_mk s)
  refine ⟨w', hr, ⟨_, ho, h2.put _ _, fun y hy => ?_⟩, touch_turned hg⟩
  by_cases e : y = x
  · subst e
    refine ⟨by simp [upd, has_put_same h2 (law28.key (key28 hx))], fun v' hv' z => ?_⟩
    simp [upd] at hv'
    subst hv'
    exact atKey_put_same h2 (law28.key (key28 hx)) _ _
  · have hne : (Lit.int .u64 (y : Int)) ≠ Lit.int .u64 (x : Int) := fun h => e (by simp at h; omega)
    refine ⟨by rw [has_put_other hne]; simp [upd, e, (h3 y hy).1], fun v' hv' z => ?_⟩
    simp [upd, e] at hv'
    rw [atKey_put_other hne]
    exact (h3 y hy).2 v' hv' z
theorem IsM.drop (h : IsM w b n f) (x : Nat) (hx : x < 18446744073709551616) (ty : TypeId) :
    ∃ w', (Builtin.delete_ #[60, 28] ty #[.map (some b), .int .u64 (x : Int)]).run Try.prog w = .ok (.tuple #[]) w' ∧ IsM w' b n (upd f x none) ∧ Touch [b] w w' := by
  obtain ⟨D, h1, h2, h3⟩ := h
  obtain ⟨w', hr, ho, hg⟩ := h1.drop law28 und60 (key28 hx) ty
  refine ⟨w', hr, ⟨_, ho, h2.del _, fun y hy => ?_⟩, touch_turned hg⟩
  by_cases e : y = x
  · subst e
    exact ⟨by simp [upd, has_del_same], fun v' hv' z => by simp [upd] at hv'⟩
  · have hne : (Lit.int .u64 (y : Int)) ≠ Lit.int .u64 (x : Int) := fun h => e (by simp at h; omega)
    refine ⟨by rw [has_del_other hne]; simp [upd, e, (h3 y hy).1], fun v' hv' z => ?_⟩
    simp [upd, e] at hv'
    rw [atKey_del_other hne]
    exact (h3 y hy).2 v' hv' z
theorem IsM.look (h : IsM w b n f) (x : Nat) (hx : x < 18446744073709551616) :
    (Instr.lookup 60 (.map (some b)) (.int .u64 (x : Int)) false).run Try.prog w = .ok (pktV ((f x).getD noPkt)) w := by
  obtain ⟨D, h1, h2, h3⟩ := h
  obtain ⟨v, ps, hr, hv⟩ := h1.lookup law28 und60 (zero30 w) (pktR_mk noPkt) (key28 hx)
  rw [hr]
  obtain ⟨s, rfl, e⟩ := pktR_inv hv
  cases hf : f x with
  | none =>
    have h4 : Maps.has D (.int .u64 (x : Int)) = false := by rw [(h3 x hx).1, hf]; rfl
    rw [atKey_of_not_has h4] at e
    simp at e
    rw [← pktD_inj e.1]
    rfl
  | some c =>
    rw [(h3 x hx).2 c hf] at e
    simp at e
    rw [← pktD_inj e.1]
    rfl
end
/-- The packet of a number. -/
def fnd (l : List Pkt) (x : Nat) : Option Pkt := l.find? fun s => s.pn == x
end Go.Proofs.Ythnokfchebmjiaa
