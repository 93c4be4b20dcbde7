/- What HalfStates makes of its half, in plain Lean. Conditions: none. -/
import Derived.Test.YtmidlielcioinaaL
import Derived.Deep.OwnRows
namespace Go.Proofs.Ytmidlielcioinaa
open Go.RowKit

def z0 (n : Nat) : List Nat := List.replicate n 0
theorem z0_len (n : Nat) : (z0 n).length = n := by simp [z0]
theorem z0_part (n a b : Nat) (h : a + b ≤ n) : ((z0 n).drop a).take b = z0 b := by
  unfold z0
  rw [List.drop_replicate, List.take_replicate]
  congr 1
  omega
def s1 (n : Nat) (f : Bool) : Snd := ⟨z0 n, f, 0, 0, [], [], 1000, false⟩
theorem st_new : snd0 1000 = ⟨[], false, 0, 0, [], [], 1000, false⟩ := rfl
theorem st_write (n : Nat) (f : Bool) : writeS ⟨[], false, 0, 0, [], [], 1000, false⟩ (z0 n) f = s1 n f := rfl
theorem st_ready (n : Nat) (f : Bool) : stateV (s1 n f) = vReady := by
  unfold stateV doneB s1
  simp
def s2 (n : Nat) (f : Bool) : Snd := ⟨z0 n, f, 0, n / 2, [], [], 1000, false⟩
theorem st_next (n : Nat) (f : Bool) (h1 : 1 ≤ n) (h2 : n ≤ 50) : nextS (s1 n f) (n / 2) = ((0, z0 (n / 2), false, decide (0 < n / 2)), s2 n f) := by
  have e1 : min (n / 2) (min n 1000 - 0) = n / 2 := by omega
  have hb : bytesAt (s1 n f) 0 (n / 2) = z0 (n / 2) := z0_part n 0 (n / 2) (by omega)
  have hc : ∀ t, t = n / 2 → chunkF { s1 n f with top := t } 0 (n / 2) = false := fun t _ => by
    unfold chunkF s1
    rw [z0_len]
    simp
    intro _
    omega
  unfold nextS
  by_cases h0 : 0 < n / 2
  · simp only [s1, z0_len, e1, Nat.zero_add, if_pos h0] at hb hc ⊢
    simp only [hb, hc _ rfl, chunkS, h0, s2]
    simp
  · have hz : n / 2 = 0 := by omega
    have hc0 : chunkF (s1 n f) 0 0 = false := by
      unfold chunkF s1
      rw [z0_len]
      simp
      intro _
      omega
    unfold s1 at hc0
    simp only [s1, s2, z0_len, hz]
    have n0 := Bool.eq_false_iff.1 hc0
    have n1 : ¬ (false = true) := by decide
    have n2 : ¬ 0 < 0 := by decide
    rw [show min 0 (min n 1000 - 0) = 0 from by omega, if_neg n1, if_neg n2]
    refine (if_neg n0).trans ?_
    simp [z0]
theorem st_send (n : Nat) (f : Bool) (h : 0 < n / 2) : stateV (s2 n f) = vSend := by
  unfold stateV doneB s2
  have : ¬ ((n / 2 : Nat) : Int) = 0 := by omega
  simp
  omega
def s3r (n : Nat) (f : Bool) : Snd := ⟨z0 n, f, 0, n / 2, [], [], 1000, true⟩
theorem st_reset (n : Nat) (f : Bool) : resetB (s2 n f) = false := by simp [resetB, doneB, s2]
theorem st_reset2 (n : Nat) (f : Bool) : resetB (s3r n f) = true := by simp [resetB, s3r]
theorem st_next3 (n : Nat) (f : Bool) (k : Nat) : nextS (s3r n f) k = ((0, [], false, false), s3r n f) := by simp [nextS, s3r]
theorem st_state3 (n : Nat) (f : Bool) : stateV (s3r n f) = vReset := by simp [stateV, s3r]
theorem st_write3 (n : Nat) (f : Bool) : writeS (s3r n f) [] true = s3r n f := by simp [writeS, s3r]
def s3 (n : Nat) (f : Bool) : Snd := ⟨z0 n, f, if f then 1 else 0, n, [], [], 1000, false⟩
theorem st_rest (n : Nat) (f : Bool) (h1 : 1 ≤ n) (h2 : n ≤ 50) : nextS (s2 n f) 1000 = ((n / 2, z0 (n - n / 2), f, true), s3 n f) := by
  have e1 : min 1000 (min n 1000 - n / 2) = n - n / 2 := by omega
  have e2 : n / 2 + (n - n / 2) = n := by omega
  have h0 : 0 < n - n / 2 := by omega
  have hb : bytesAt (s2 n f) (n / 2) (n - n / 2) = z0 (n - n / 2) := z0_part n _ _ (by omega)
  have hc : chunkF { s2 n f with top := n } (n / 2) (n - n / 2) = f := by
    unfold chunkF s2
    rw [z0_len]
    simp
    intro _
    omega
  unfold nextS
  simp only [s2, z0_len, e1, e2, if_pos h0] at hb hc ⊢
  simp only [hb, hc, chunkS, s3]
  cases f <;> simp
theorem st_sent (n : Nat) (f : Bool) (h : 1 ≤ n) : stateV (s3 n f) = if f then vSent else vSend := by
  have : ¬ (n : Int) = 0 := by omega
  cases f
  · simp [stateV, doneB, s3]; omega
  · simp [stateV, doneB, s3]
def s4 (n : Nat) (f : Bool) : Snd := ⟨z0 n, f, if f then 1 else 0, n, [], [(0, n - 1)], 1000, false⟩
theorem st_ack (n : Nat) (f : Bool) (h1 : 1 ≤ n) (h2 : n ≤ 50) : ackS (s3 n f) 0 (n : Int) false = s4 n f := by
  have e : spanR (s3 n f) 0 (n : Int) = (0, n - 1, true) := by
    unfold spanR s3
    rw [if_neg (by simp; omega)]
    simp
  have hs : spOp [] 0 0 (n - 1) = [(0, n - 1)] := by
    unfold spOp
    have : n - 1 ≤ mx := by unfold mx; omega
    simp [sp]
    try omega
  unfold ackS ackL ackA
  rw [e]
  simp [s3, s4, hs, wo]
theorem st_notdone (n : Nat) (f : Bool) (h : 1 ≤ n) : stateV (s4 n f) = if f then vSent else vSend := by
  have : ¬ (n : Int) = 0 := by omega
  cases f
  · simp [stateV, doneB, s4]; omega
  · simp [stateV, doneB, s4]
def s5 (n : Nat) (f : Bool) : Snd := ⟨z0 n, f, if f then 3 else 0, n, [], [(0, n - 1)], 1000, false⟩
theorem st_ackfin (n : Nat) (f : Bool) : ackS (s4 n f) 0 0 true = s5 n f := by
  have e : spanR (s4 n f) 0 0 = (0, 0, false) := by
    unfold spanR
    rw [if_pos (.inl (by decide))]
  unfold ackS ackL ackA
  rw [e]
  cases f <;> simp [s4, s5]
theorem cnt_all (n : Nat) (h : 1 ≤ n) : cnt [(0, n - 1)] = n := by
  simp [cnt]
  try omega
theorem st_done (n : Nat) (f : Bool) (h : 1 ≤ n) : doneB (s5 n f) = f := by
  unfold doneB s5
  rw [z0_len, cnt_all n h]
  cases f <;> simp
theorem st_recvd (n : Nat) (f : Bool) (h : 1 ≤ n) : stateV (s5 n f) = if f then vRecvd else vSend := by
  have hd := st_done n f h
  have : ¬ (n : Int) = 0 := by omega
  unfold stateV
  rw [hd]
  cases f <;> simp [s5]
  omega
theorem st_lost (n : Nat) (f : Bool) (h1 : 1 ≤ n) (h2 : n ≤ 50) : lostS (s5 n f) 0 (n : Int) true = s5 n f := by
  have e : spanR (s5 n f) 0 (n : Int) = (0, n - 1, true) := by
    unfold spanR s5
    rw [if_neg (by simp; omega)]
    simp
  have hs : spOp [] 0 0 (n - 1) = [(0, n - 1)] := by
    unfold spOp
    have : n - 1 ≤ mx := by unfold mx; omega
    simp [sp]
    try omega
  have hw : wo [(0, n - 1)] [(0, n - 1)] = [] := by
    simp [wo, cutR]
  unfold lostS lostL
  rw [e]
  cases f <;> simp [s5, hs, join, hw]
theorem st_end (n : Nat) (f : Bool) (k : Nat) (h1 : 1 ≤ n) (h2 : n ≤ 50) : nextS (s5 n f) k = ((0, [], false, false), s5 n f) := by
  have hc : chunkF (s5 n f) n 0 = false := by
    unfold chunkF s5
    cases f <;> simp
  have e : min n 1000 - n = 0 := by omega
  unfold nextS
  simp only [s5, z0_len, e] at hc ⊢
  simp [hc]
theorem st_lastreset (n : Nat) (f : Bool) (h : 1 ≤ n) : resetB (s5 n f) = f := by
  unfold resetB
  rw [st_done n f h]
  simp [s5]
theorem at_reset {w wk : World} {p : Nat} {σ : Snd} {D : List (Value × List Nat)} (h : AtSnd w wk p σ D) (n : Int) :
    Calls Try.prog 19 #[.pointer (some ⟨p, 0, none⟩), .int .u64 n] wk fun e w' => e = .returned (.tuple #[.int .u64 (if resetB σ then 0 else (σ.top : Int)), .bool (!resetB σ)]) ∧ AtSnd w w' p (if resetB σ then σ else { σ with reset := true }) D := by
  obtain ⟨F, h1, h2, h3, h4⟩ := h
  refine (reset_any wk p F σ n h1).mono ?_
  rintro e w' ⟨rfl, k⟩
  exact ⟨rfl, AtSnd.step h2 h3 h4 k⟩
theorem AtSnd.drop {w wk : World} {p : Nat} {σ : Snd} {D : List (Value × List Nat)} (h : AtSnd w wk p σ D) : AtSnd w wk p σ [] := by
  obtain ⟨F, h1, h2, h3, h4⟩ := h
  exact ⟨F, h1, h2, h3, fun d hd => by simp at hd⟩
theorem make_zero (n : Nat) (h : n ≤ 1099511627776) (w : World) : (Instr.makeSlice 22 (.int .i64 (n : Int)) (.int .i64 (n : Int))).run Try.prog w = .ok (.slice (some ⟨w.heap.size, 0, none⟩) n n) (w.alloc (.cells (madeCells #[.int .u8 0] n) 5)) :=
  run_make_row' 22 5 (.int .u8 0) 1 Try.underlying22 info5 rfl .i64 .i64 n (by omega) (by omega) w
theorem rd_zero (w : World) (n : Nat) : Rd (w.alloc (.cells (madeCells #[.int .u8 0] n) 5)) 1 (.slice (some ⟨w.heap.size, 0, none⟩) n n) n (bs (z0 n)) := by
  refine ⟨by simp [bs, z0], .inr ⟨_, 0, n, rfl, Nat.le_refl _, fun _ => by simp, fun j hj => ?_⟩⟩
  have h := (IsBlk.new w (madeCells #[.int .u8 0] n).toList 5).cell (0 + j)
  simp only [Array.toArray_toList] at h
  rw [h, toList_madeCells_one]
  simp [bs, z0]
end Go.Proofs.Ytmidlielcioinaa
