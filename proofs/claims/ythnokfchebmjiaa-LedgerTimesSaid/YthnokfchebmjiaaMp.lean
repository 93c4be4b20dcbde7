/- Maps from numbers to truth values and to numbers, as plain functions. Conditions: none of their own. -/
import Derived.Test.YthnokfchebmjiaaSp
namespace Go.Proofs.Ythnokfchebmjiaa
open Go.RowKit Go.Maps Go.WideMaps Go.ChangeShapes

/-- A kind of map. -/
structure Kd (T : Type) where
  mt : TypeId
  vt : TypeId
  und : Try.prog.underlying mt = some (.map 28 vt)
  vl : T → Value
  dt : T → DataW Unit
  z : T
  zero : ∀ w, (zeroValue vt).run Try.prog w = .ok (vl z) w
  vl_inj : ∀ a b, vl a = vl b → a = b
  dt_inj : ∀ a b, dt a = dt b → a = b
section
variable {T : Type} (K : Kd T)
open Classical in
noncomputable def Kd.R (v : Value) : Option (DataW Unit × List MemPlace) := if h : ∃ s, v = K.vl s then some (K.dt h.choose, []) else none
theorem Kd.R_mk (s : T) : K.R (K.vl s) = some (K.dt s, []) := by
  unfold Kd.R
  have h : ∃ t, K.vl s = K.vl t := ⟨s, rfl⟩
  rw [dif_pos h, ← K.vl_inj _ _ h.choose_spec]
theorem Kd.R_inv {v : Value} {y : DataW Unit × List MemPlace} (h : K.R v = some y) : ∃ s, v = K.vl s ∧ y = (K.dt s, []) := by
  unfold Kd.R at h
  split at h
  · next h1 => exact ⟨h1.choose, h1.choose_spec, (Option.some.inj h).symm⟩
  · cases h
def updN (f : Nat → Option T) (k : Nat) (v : Option T) : Nat → Option T := fun x => if x = k then v else f x
/-- Block b is a map of at most n entries that holds just what f says. -/
def IsN (w : World) (b n : Nat) (f : Nat → Option T) : Prop :=
  ∃ D : DataW Unit, w.ownsMap Try.prog 28 K.R b n D ∧ IsMap D ∧ ∀ x : Nat, x < 18446744073709551616 → Maps.has D (.int .u64 (x : Int)) = (f x).isSome ∧ ∀ s, f x = some s → ∀ z, D.atKey (.int .u64 (x : Int)) z = K.dt s
variable {K} {w w' : World} {b n : Nat} {f : Nat → Option T}
theorem IsN.made (w : World) : IsN K (w.alloc (.map #[] 0)) w.heap.size 0 fun _ => none :=
  ⟨.map [], World.ownsMap_made _ _ _ _, isMap_empty, fun x _ => ⟨rfl, fun v h => by cases h⟩⟩
theorem IsN.lt (h : IsN K w b n f) : b < w.heap.size := let ⟨_, h1, _⟩ := h; h1.lt
theorem IsN.touch {ks : List Nat} (h : IsN K w b n f) (hk : Touch ks w w') (hb : b ∉ ks) : IsN K w' b n f := by
  have hl := h.lt
  obtain ⟨D, ⟨es, clock, h0, h1⟩, h2, h3⟩ := h
  exact ⟨D, ⟨es, clock, (hk.block b hl hb).trans h0, h1⟩, h2, h3⟩
theorem IsN.store (h : IsN K w b n f) (x : Nat) (hx : x < 18446744073709551616) (s : T) (hn : n < maxLen) :
    ∃ w', (Instr.mapUpdate K.mt (.map (some b)) (.int .u64 (x : Int)) (K.vl s)).run Try.prog w = .ok () w' ∧ IsN K w' b (n + 1) (updN f x (some s)) ∧ Touch [b] w w' := by
  obtain ⟨D, h1, h2, h3⟩ := h
  obtain ⟨w', hr, ho, hg⟩ := h1.store law28 K.und hn (key28 hx) (K.R_mk s)
  refine ⟨w', hr, ⟨_, ho, h2.put _ _, fun y hy => ?_⟩, touch_turned hg⟩
  by_cases e : y = x
  · subst e
    refine ⟨by simp [updN, has_put_same h2 (law28.key (key28 hx))], fun v' hv' z => ?_⟩
    simp [updN] at hv'
    subst hv'
    exact atKey_put_same h2 (law28.key (key28 hx)) _ _
  · have hne : (Lit.int .u64 (y : Int)) ≠ Lit.int .u64 (x : Int) := fun h => e (by simp at h; omega)
    refine ⟨by rw [has_put_other hne]; simp [updN, e, (h3 y hy).1], fun v' hv' z => ?_⟩
    simp [updN, e] at hv'
    rw [atKey_put_other hne]
    exact (h3 y hy).2 v' hv' z
theorem IsN.look (h : IsN K w b n f) (x : Nat) (hx : x < 18446744073709551616) :
    (Instr.lookup K.mt (.map (some b)) (.int .u64 (x : Int)) false).run Try.prog w = .ok (K.vl ((f x).getD K.z)) w := by
  obtain ⟨D, h1, h2, h3⟩ := h
  obtain ⟨v, ps, hr, hv⟩ := h1.lookup law28 K.und (K.zero w) (K.R_mk K.z) (key28 hx)
  rw [hr]
  obtain ⟨s, rfl, e⟩ := K.R_inv hv
  cases hf : f x with
  | none =>
    have h4 : Maps.has D (.int .u64 (x : Int)) = false := by rw [(h3 x hx).1, hf]; rfl
    rw [atKey_of_not_has h4] at e
    simp at e
    rw [← K.dt_inj _ _ e.1]
    rfl
  | some c =>
    rw [(h3 x hx).2 c hf] at e
    simp at e
    rw [← K.dt_inj _ _ e.1]
    rfl
end
def kb : Kd Bool := ⟨48, 4, by kernel_rfl, Value.bool, fun b => .lit (.bool b), false, fun _ => by kernel_rfl, fun a b h => by simpa using h, fun a b h => by simpa using h⟩
def ki : Kd Int := ⟨53, 3, by kernel_rfl, Value.int .i64, fun b => .lit (.int .i64 b), 0, fun _ => by kernel_rfl, fun a b h => by simpa using h, fun a b h => by simpa using h⟩
/-- A map from numbers. -/
def tN {T : Type} (K : Kd T) (b n : Nat) (f : Nat → Option T) : Thing := ⟨fun w => IsN K w b n f, [b], fun _ _ _ h hk hn => h.touch hk (hn _ (by simp)), fun _ h g hg => by simp at hg; subst hg; exact h.lt⟩
section
variable {w wk : World} {p : Nat} {σ : Ldg} {L : List Thing} {T : Type} {K : Kd T} {b n : Nat} {f : Nat → Option T}
theorem ll_put (h : LL w wk p σ (tN K b n f :: L)) (x : Nat) (hx : x < 18446744073709551616) (s : T) (hn : n < maxLen) :
    ∃ w', (Instr.mapUpdate K.mt (.map (some b)) (.int .u64 (x : Int)) (K.vl s)).run Try.prog wk = .ok () w' ∧ LL w w' p σ (tN K b (n + 1) (updN f x (some s)) :: L) := by
  obtain ⟨w', h1, h2, h3⟩ := (show IsN K wk b n f from h.get (List.mem_cons_self ..)).store x hx s hn
  exact ⟨w', h1, h.step h3 (N := tN K b (n + 1) (updN f x (some s))) h2 (fun g hg => .inl hg)⟩
theorem ll_look (h : LL w wk p σ (tN K b n f :: L)) (x : Nat) (hx : x < 18446744073709551616) :
    (Instr.lookup K.mt (.map (some b)) (.int .u64 (x : Int)) false).run Try.prog wk = .ok (K.vl ((f x).getD K.z)) wk := (show IsN K wk b n f from h.get (List.mem_cons_self ..)).look x hx
theorem ll_map (h : LL w wk p σ L) : LL w (wk.alloc (.map #[] 0)) p σ (tN K wk.heap.size 0 (fun _ => none) :: L) :=
  h.more ((Touch.refl _ _).alloc _) (tN K wk.heap.size 0 fun _ => none) (IsN.made wk) (fun g hg => by simp [tN] at hg; omega)
end
end Go.Proofs.Ythnokfchebmjiaa
