/- Proved here: what round trips any samples come to, with any delays. Conditions: none. -/
import Derived.Test.YthnokfchebmjiaaRows
import Derived.Test.YthnokfchebmjiaaTw
import Derived.WalkKit
import Derived.ProofKit
import Derived.OpenShut
import Derived.ShutString
import Derived.ChangeOld
import Derived.Below
import Derived.SizedLaws
namespace Go.Proofs.Ythnokfchebmjiaa.ledgerTimes
open Go.ChangeShapes Go.WideShapes Go.ChangeAt Go.RowKit
open Go.ChangeMaps (open_string shut_string)
set_option linter.unusedVariables false

theorem own : ownKnob Try.prog.godebug = none := by kernel_rfl
theorem laidOut : laidOutB Try.prog = true := by kernel_rfl
theorem walk (a a2 : Option Addr) (c c2 : Nat) (zs ys : List Int) (w : World) (hz : Rd w 1 (.slice a zs.length c) zs.length (zs.map (Value.int .u8))) (hb : ∀ z ∈ zs, 0 ≤ z ∧ z ≤ 255)
    (hy : Rd w 1 (.slice a2 ys.length c2) ys.length (ys.map (Value.int .u8))) (hb2 : ∀ z ∈ ys, 0 ≤ z ∧ z ≤ 255) :
    Calls Try.prog 3 #[.slice a zs.length c, .slice a2 ys.length c2] w fun e w' => e = .returned (.bool true) ∧ Below w.heap.size w w' := by
  obtain ⟨l, hl, hm, hx⟩ := bs_of zs hb
  obtain ⟨l2, hl2, hm2, hx2⟩ := bs_of ys hb2
  rw [hm] at hz
  rw [hm2] at hy
  by_cases h : zs.length ≤ 30
  · by_cases h2 : zs.length ≤ ys.length
    · exact (times_walk a a2 zs.length ys.length c c2 l l2 w hz hl.symm hx hy hl2.symm hx2 h h2).mono fun e w' ⟨he, ht⟩ => ⟨he, ht.below (Nat.le_refl _) (by simp)⟩
    · exact (times_many a a2 zs.length ys.length c c2 w (.inr (by omega))).mono fun e w' ⟨he, ht⟩ => ⟨he, ht.below (Nat.le_refl _) (by simp)⟩
  · exact (times_many a a2 zs.length ys.length c c2 w (.inl (by omega))).mono fun e w' ⟨he, ht⟩ => ⟨he, ht.below (Nat.le_refl _) (by simp)⟩

set_option maxRecDepth 100000 in
theorem lifted (os : Os) (started : os.Started) (H : Type) (enc : TypeId × Value → H) :
    ReturnsInHanded {} Try.checked os 3 .any (Rows.ledgerTimesSpec.pre6 enc Try.prog Try.f3 Rows.ledgerTimesRow.domain false) (Rows.ledgerTimesSpec.post enc Try.prog Try.f3 false true false false) := by
  refine returnsInHanded_of_change_sized (C := Try.checked) own started (by kernel_rfl) Try.func3
    (ChangeSpec.witness6 (enc := enc) (C := Try.checked) false ⟨#[], #[.slice none 0 0, .slice none 0 0], []⟩ 8 (by kernel_rfl) (by kernel_rfl) (by kernel_rfl) (by kernel_rfl)) ?_
  intro W base args ds gs before hval0 hW hcnd hsz0 _
  have hval : ∀ (j : Nat) t v, Try.f3.params[j]? = some t → args[j]? = some v → Value.okWide Try.prog W .any base t v := hval0
  have hW' := hW
  obtain ⟨p, q, hA0, hV, rfl, hfz, hnd⟩ := hW
  have hA : DataW.TrodAll enc Try.prog W 0 (fun _ => true) true Try.f3.params.toList args.toList ds p := hA0
  rw [Try.params3] at hA hval
  obtain ⟨v0, vs0, d0, ds0, p0, q0, hargs, rfl, rfl, h0, r0⟩ := trodAll_cons hA
  obtain ⟨v1, vs1, d1, ds1, p1, q1, rfl, rfl, rfl, h1, r1⟩ := trodAll_cons r0
  obtain ⟨rfl, rfl, rfl⟩ := trodAll_nil r1
  obtain rfl : args = #[v0, v1] := by cases args; simp_all
  obtain ⟨rfl, rfl⟩ := trodVars_none hV
  have hsz : (DataW.weightsEach Try.prog [22, 22] [d0, d1]).all (fun x => decide (x ≤ reachBytes)) = true := by
    have h := hsz0
    rw [Try.params3] at h
    exact h
  have k0 := h0
  have lt0 : ∀ x ∈ p0, x.block < W.heap.size := by obtain ⟨m, hm⟩ := k0; exact DataW.trod_lt m _ _ _ hm
  have z0 : ∀ n ∈ d0.weights Try.prog 22, n ≤ reachBytes := fun n hn => by simpa using List.all_eq_true.1 hsz _ (DataW.weights_mem_each (j := 0) (t := 22) rfl rfl n hn)
  obtain ⟨a0, x0, c0, rfl, f0, b0⟩ := open_u8s (hval 0 22 v0 rfl rfl) h0 z0
  have k1 := h1
  have lt1 : ∀ x ∈ p1, x.block < W.heap.size := by obtain ⟨m, hm⟩ := k1; exact DataW.trod_lt m _ _ _ hm
  have z1 : ∀ n ∈ d1.weights Try.prog 22, n ≤ reachBytes := fun n hn => by simpa using List.all_eq_true.1 hsz _ (DataW.weights_mem_each (j := 1) (t := 22) rfl rfl n hn)
  obtain ⟨a1, x1, c1, rfl, f1, b1⟩ := open_u8s (hval 1 22 v1 rfl rfl) h1 z1
  clear hA0 hval0 hsz0
  refine (walk a0 a1 c0 c1 x0 x1 W f0 b0 f1 b1).mono fun e W' ⟨he, bel⟩ => ?_
  subst he
  exact ⟨_, rfl, _, _, _, [], _, [], hW', trodAll_mk1 (shut_bool Try.underlying4 _), (trodAll_cons_mk (Below.trod laidOut (by kernel_rfl) (of_decide_eq_true (by kernel_rfl)) k0 bel lt0) (trodAll_cons_mk (Below.trod laidOut (by kernel_rfl) (of_decide_eq_true (by kernel_rfl)) k1 bel lt1) trodAll_mk0)), rfl, bel.frame _, fun h => by cases h⟩

/-- The statement. -/
theorem proved : Rows.LedgerTimesSaid :=
  OpenClaim.holds_of_wide 3 Try.f3 rfl rfl rfl rfl rfl rfl rfl ⟨rfl, rfl, rfl, rfl, rfl⟩ rfl rfl rfl rfl rfl (by kernel_rfl) Try.func3 (by kernel_rfl)
    (of_decide_eq_true (by kernel_rfl)) (by unfold Func.isWrapper; first | (rw [if_pos (by decide +kernel)]; kernel_rfl) | (rw [if_neg (by decide +kernel)]; exact ⟨rfl, rfl⟩))
    (fun os started H enc _ => lifted os started H enc)
#print axioms proved
end Go.Proofs.Ythnokfchebmjiaa.ledgerTimes
