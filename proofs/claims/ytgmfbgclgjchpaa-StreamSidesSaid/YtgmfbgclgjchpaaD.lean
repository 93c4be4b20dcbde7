/- The walk of what is sent. Conditions: the state is one of the five, the kind a byte, flags 0 or 1. -/
import Derived.Test.YtgmfbgclgjchpaaC
namespace Go.Proofs.Ytgmfbgclgjchpaa
open Go.RowKit Go.Maps Go.WideMaps

theorem wpList_delete_M (w : World) {ops : Array Oper} {rest : List Oper} {o : Oper} {a : Act} {Q : Exit → Act → World → Prop}
    (hg : o.guard = none) (m x : Operand) (hop : o.op = Op.call { callee := Callee.builtin Builtin.delete, args := #[m, x], argTypes := #[36, 39] }) (b n : Nat) (f : Mv → Option Int)
    (hm : a.eval m = .map (some b)) (h : IsM w b n f) (k : Mv) (hx : a.eval x = keyV k) (hk : OkM k)
    (hK : ∀ w', IsM w' b n (upd f k none) → w.grownBy w' (some b) → wpList Try.prog ops Q rest (a.put o.dst (.tuple #[])) w') :
    wpList Try.prog ops Q (o :: rest) a w := by
  refine wpList_plain hg fun K' hK' => ?_
  obtain ⟨w', hrun, r1, r2⟩ := h.drop k hk o.type
  unfold Oper.wp
  simp [execOp, hop, resolve, invoke, builtin, hm, hx, hrun, Result.andThen]
  exact hK' _ _ (hK w' r1 r2.grown)

def sendM : Mv → Option Int := upd (movesF 2 3) (4, 8, false) none
def ansE (s err : Int) (o : Option Int) : Int × Int := match o with | some v => (v, 0) | none => (s, err)
def sendF (s t fl : Int) : Int × Int := ansE s 32 (sendM (s, t, endB t fl))

theorem okM_of {s t : Int} {e : Bool} (hs : 0 ≤ s ∧ s ≤ 4) (ht : 0 ≤ t ∧ t ≤ 255) : OkM (s, t, e) := by
  show (Lit.int .i64 s).wf = true ∧ (Lit.int .u8 t).wf = true
  exact ⟨WalkArith.wf_i64 (by omega), WalkArith.wf_u8 ht⟩
theorem four {w : World} {n : Nat} {t : TypeId} {v0 v1 v2 v3 : Value} (h : IsBlk w n [v0, v1, v2, v3] t) :
    w.cell? ⟨n, 0, none⟩ = some v0 ∧ w.cell? ⟨n, 1, none⟩ = some v1 ∧ w.cell? ⟨n, 2, none⟩ = some v2 ∧ w.cell? ⟨n, 3, none⟩ = some v3 := ⟨h.cell 0, h.cell 1, h.cell 2, h.cell 3⟩

set_option maxHeartbeats 1000000 in
theorem send_any (s t fl : Int) (w : World) (hs : 0 ≤ s ∧ s ≤ 4) (ht : 0 ≤ t ∧ t ≤ 255) (hf : fl = 0 ∨ fl = 1) :
    Calls Try.prog 6 #[.int .i64 s, .agg #[.int .u8 t, .int .u8 fl, .int .u32 0, .slice none 0 0]] w
      fun e w' => e = .returned (.tuple #[.int .i64 (sendF s t fl).1, .int .i64 (sendF s t fl).2]) ∧ Below w.heap.size w w' := by
  have hok : OkM (s, t, endB t fl) := okM_of hs ht
  have OK := Lib.hid hok
  have HF := Lib.hid hf
  clear hok hs ht hf
  go_enter Try.func6, Try.ntmps6
  go_wp2_with fail
  refine (moves_any 2 3 _ (.inl ⟨rfl, rfl⟩)).mono ?_
  rintro e w1 ⟨b, n, rfl, hb, hn, hM, hbel⟩
  have HI := Lib.hid ((IsBlk.new w [.int .u8 t, .int .u8 fl, .int .u32 0, .slice none 0 0] 26).below hbel (by simp))
  have HB := Lib.hid (((Below.refl w.heap.size w).alloc (Nat.le_refl _) (.cells #[.int .u8 t, .int .u8 fl, .int .u32 0, .slice none 0 0] 26)).trans (hbel.mono (by simp)))
  have HM := Lib.hid hM
  have HBB := Lib.hid (show w.heap.size < b from by simp at hb; omega)
  clear hb hn hM hbel
  go_wp2_with (first | (at_delete; refine wpList_delete_M _ rfl _ _ rfl b _ _ rfl HM.out (4, 8, false) rfl ⟨by decide, by decide⟩ ?_; intro w2 hm2 hg2; have HI2 := Lib.hid (HI.out.grown hg2 (by have := HBB.out; simp; omega)); obtain ⟨x0, x1, x2, x3⟩ := four HI2.out))
  refine (of_any s t fl _ HF.out).mono ?_
  rintro e w3 ⟨rfl, hb3⟩
  have hlook := (hm2.below hb3 hm2.lt).look _ OK.out
  rw [show upd (movesF 2 3) (4, 8, false) none (s, t, endB t fl) = sendM (s, t, endB t fl) from rfl] at hlook
  have HB3 := Lib.hid ((belowG HB.out hg2 HB.out.size (Nat.le_of_lt HBB.out)).trans (hb3.mono (Nat.le_trans HB.out.size hg2.size)))
  have hres : sendF s t fl = ansE s 32 (sendM (s, t, endB t fl)) := rfl
  generalize sendM (s, t, endB t fl) = r at hlook hres
  clear hb3 hm2 hg2 x0 x1 x2 x3
  cases r with
  | none =>
    have HR := Lib.hid hres
    clear hres
    go_wp2_with fail
    go_ret2
    exact ⟨by rw [HR.out]; rfl, HB3.out⟩
  | some v =>
    have HR := Lib.hid hres
    clear hres
    go_wp2_with fail
    go_ret2
    exact ⟨by rw [HR.out]; rfl, HB3.out⟩
end Go.Proofs.Ytgmfbgclgjchpaa
