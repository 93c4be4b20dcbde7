/- A struct of six numbers, by value, as an argument: opened and shut. Conditions: none. -/
import Derived.Test.YtokbekiihdabhaaA
import Derived.WalkKit
import Derived.ProofKit
import Derived.OpenShut
import Derived.ChangeOld
import Derived.ChangeSame
import Derived.Lib.SmallJoins
namespace Go.Proofs.Ytokbekiihdabhaa
open Go.ChangeShapes Go.WideShapes Go.ChangeAt Go.RowKit

theorem cells24 : Try.prog.cellsOf 24 = 6 := by kernel_rfl
theorem und22 : Try.prog.underlying 22 = some (.int .u64) := by kernel_rfl
theorem c22 : Try.prog.cellsOf 22 = 1 := by kernel_rfl
theorem six_f {α : Type} (l : Array α) (h : l.size = 6) : ∃ a b c d e f, l = #[a, b, c, d, e, f] := by
  obtain ⟨l⟩ := l
  match l, h with
  | [a, b, c, d, e, f], _ => exact ⟨a, b, c, d, e, f, rfl⟩
theorem flds (fs : Array Field) (h : Try.prog.underlying 24 = some (.struct fs)) : (fs.toList.map fun f => (f.type, f.offset)) = [(22, 0), (22, 1), (22, 2), (22, 3), (22, 4), (22, 5)] := by
  have h2 : (match Try.prog.underlying 24 with | some (.struct fs) => (fs.toList.map fun f => (f.type, f.offset)) | _ => []) = [(22, 0), (22, 1), (22, 2), (22, 3), (22, 4), (22, 5)] := by kernel_rfl
  rw [h] at h2
  exact h2
theorem is_str : (match Try.prog.underlying 24 with | some (.struct _) => true | _ => false) = true := by kernel_rfl
theorem fields24 : ∃ fs, Try.prog.underlying 24 = some (.struct fs) := by
  have h := is_str
  generalize Try.prog.underlying 24 = u at h
  match u, h with
  | some (.struct fs), _ => exact ⟨fs, rfl⟩

def S6.ok (x : S6) : Prop := (Lit.int .u64 x.t).wf = true ∧ (Lit.int .u64 x.p).wf = true ∧ (Lit.int .u64 x.s).wf = true ∧ (Lit.int .u64 x.w).wf = true ∧ (Lit.int .u64 x.f).wf = true ∧ (Lit.int .u64 x.l).wf = true
section
variable {H : Type} {enc : TypeId × Value → H} {w : World} {base : Nat} {spare : Nat → Bool} {held : Bool}
theorem open_S6 {r : Reach} {b0 : Nat} {v : Value} {d : DataW H} {p : List MemPlace} (hv : Value.okWide Try.prog w r b0 24 v) (h : DataW.Trod enc Try.prog w base spare held 24 v d p) :
    ∃ x : S6, v = .agg #[.int .u64 x.t, .int .u64 x.p, .int .u64 x.s, .int .u64 x.w, .int .u64 x.f, .int .u64 x.l] ∧
      d = .agg [.lit (.int .u64 x.t), .lit (.int .u64 x.p), .lit (.int .u64 x.s), .lit (.int .u64 x.w), .lit (.int .u64 x.f), .lit (.int .u64 x.l)] ∧ p = [] ∧ x.ok := by
  obtain ⟨fs, hs⟩ := fields24
  obtain ⟨cs, rfl, hsz⟩ := okWide_struct hs hv
  obtain ⟨c0, c1, c2, c3, c4, c5, rfl⟩ := six_f cs (hsz.trans cells24)
  obtain ⟨fuel, hf⟩ := h
  obtain ⟨xs, n, _, hx, _, hl, hq⟩ := DataW.trod_struct hs hf
  have hfl := flds fs hs
  obtain ⟨f0, f1, f2, f3, f4, f5, rfl⟩ := six_f fs (by have := congrArg List.length hfl; simpa using this)
  simp at hfl
  obtain ⟨⟨g1, g2⟩, ⟨g3, g4⟩, ⟨g5, g6⟩, ⟨g7, g8⟩, ⟨g9, g10⟩, g11, g12⟩ := hfl
  match xs, hl with
  | [y0, y1, y2, y3, y4, y5], _ =>
    have t0 := hq 0 f0 rfl
    have t1 := hq 1 f1 rfl
    have t2 := hq 2 f2 rfl
    have t3 := hq 3 f3 rfl
    have t4 := hq 4 f4 rfl
    have t5 := hq 5 f5 rfl
    simp [g1, g2, g3, g4, g5, g6, g7, g8, g9, g10, g11, g12, c22, Value.cells] at t0 t1 t2 t3 t4 t5
    obtain ⟨n0, e0, rfl, w0⟩ := DataW.trod_int und22 t0
    obtain ⟨n1, e1, rfl, w1⟩ := DataW.trod_int und22 t1
    obtain ⟨n2, e2, rfl, w2⟩ := DataW.trod_int und22 t2
    obtain ⟨n3, e3, rfl, w3⟩ := DataW.trod_int und22 t3
    obtain ⟨n4, e4, rfl, w4⟩ := DataW.trod_int und22 t4
    obtain ⟨n5, e5, rfl, w5⟩ := DataW.trod_int und22 t5
    simp at e0 e1 e2 e3 e4 e5
    subst e0 e1 e2 e3 e4 e5
    simp at hx
    exact ⟨⟨n0, n1, n2, n3, n4, n5⟩, rfl, hx.1, hx.2, w0, w1, w2, w3, w4, w5⟩
theorem shut_S6 {x : S6} (hx : x.ok) :
    DataW.Trod enc Try.prog w base spare held 24 (.agg #[.int .u64 x.t, .int .u64 x.p, .int .u64 x.s, .int .u64 x.w, .int .u64 x.f, .int .u64 x.l])
      (.agg [.lit (.int .u64 x.t), .lit (.int .u64 x.p), .lit (.int .u64 x.s), .lit (.int .u64 x.w), .lit (.int .u64 x.f), .lit (.int .u64 x.l)]) [] := by
  obtain ⟨fs, hs⟩ := fields24
  have hfl := flds fs hs
  obtain ⟨f0, f1, f2, f3, f4, f5, rfl⟩ := six_f fs (by have := congrArg List.length hfl; simpa using this)
  simp at hfl
  obtain ⟨⟨g1, g2⟩, ⟨g3, g4⟩, ⟨g5, g6⟩, ⟨g7, g8⟩, ⟨g9, g10⟩, g11, g12⟩ := hfl
  obtain ⟨h0, h1, h2, h3, h4, h5⟩ := hx
  have := trod_struct_mk (enc := enc) (w := w) (base := base) (spare := spare) (held := held) (n := 1) (cs := [.int .u64 x.t, .int .u64 x.p, .int .u64 x.s, .int .u64 x.w, .int .u64 x.f, .int .u64 x.l])
    (xs := [(.lit (.int .u64 x.t), []), (.lit (.int .u64 x.p), []), (.lit (.int .u64 x.s), []), (.lit (.int .u64 x.w), []), (.lit (.int .u64 x.f), []), (.lit (.int .u64 x.l), [])]) hs (by simp [cells24])
    (by simp [g1, g2, g3, g4, g5, g6, g7, g8, g9, g10, g11, g12, c22, DataW.trod, h0, h1, h2, h3, h4, h5])
  exact ⟨_, by simpa [Value.cells] using this⟩
end
end Go.Proofs.Ytokbekiihdabhaa
