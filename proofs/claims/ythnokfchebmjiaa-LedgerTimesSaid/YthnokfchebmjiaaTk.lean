/- The plain law of LedgerTimes: both ledgers measure the same. Conditions: none of their own. -/
import Derived.Test.YthnokfchebmjiaaTj
namespace Go.Proofs.Ythnokfchebmjiaa
open Go.RowKit

theorem adj_ge (a n d : Nat) (h : a ≤ n) : a ≤ adj a n d := by unfold adj; split <;> omega
/-- Behind i packets, each sent and acknowledged. -/
structure TInv (i lst : Nat) (σ : Ldg) (ρ : RL) : Prop where
  op : σ.opens = []
  mem : ∀ x, inR x σ.sent ↔ x < i
  la : σ.last = (i : Int) - 1
  lg : σ.largest = (i : Int) - 1
  tot : σ.tot = i
  ms : σ.meas = decide (0 < i)
  sm : ρ.samp = decide (0 < i)
  eq : 0 < i → σ.smooth = ρ.smooth ∧ σ.varied = ρ.varied ∧ σ.least = ρ.least
  le : 0 < i → σ.least = lst
  lo : 0 < i → lst ≤ σ.smooth + 7
  l0 : i = 0 → lst = 1099511627776
  rl : ρ.sent.length = i
  rs : ∀ t ∈ ρ.sent, t.pn < i
  sh : ρ.Shut
  tp : ρ.top = (i : Int) - 1
theorem TInv.zero : TInv 0 1099511627776 led0 rho0 := ⟨rfl, fun x => by simp [led0, inR], rfl, rfl, rfl, rfl, rfl, fun h => by omega, fun h => by omega, fun h => by omega, fun _ => rfl, rfl, by simp [rho0], fun b hb => by simp [rho0] at hb, rfl⟩
section
variable {i lst : Nat} {σ : Ldg} {ρ : RL}
def pkT (i now : Nat) : Pkt := ⟨i, now, 1, true⟩
theorem TInv.fine (h : TInv i lst σ ρ) (hi : i ≤ 100) (now : Nat) : sendBad σ (pkT i now) = false := by
  have := h.la
  unfold sendBad mx pkT
  simp
  omega
theorem TInv.sent (h : TInv i lst σ ρ) (hi : i ≤ 100) (hok : σ.Ok) (now : Nat) (x : Nat) : inR x (sentS σ (pkT i now)).sent ↔ x < i + 1 := by
  show inR x (spOp σ.sent 0 i i) ↔ _
  rw [spOp_mem hok.sent i i x (by unfold mx; omega), h.mem]
  omega
theorem TInv.good (h : TInv i lst σ ρ) (hi : i ≤ 100) (hok : σ.Ok) (now : Nat) : ackBad (sentS σ (pkT i now)) [(i, i)] = false := by
  have hv : V (sentS σ (pkT i now)).sent 0 := spOp_V hok.sent i i
  have : whB i i (sentS σ (pkT i now)).sent = true := (wh_iff hv (Nat.le_refl _)).2 (fun z _ hz => (h.sent hi hok now z).2 (by omega))
  unfold ackBad
  simp [this]
theorem TInv.opn (h : TInv i lst σ ρ) (now : Nat) : (sentS σ (pkT i now)).opens = [pkT i now] := by
  show σ.opens ++ _ = _
  rw [h.op]
  rfl
theorem TInv.gone (h : TInv i lst σ ρ) (now : Nat) : goneA (sentS σ (pkT i now)) [(i, i)] = [pkT i now] := by
  unfold goneA
  rw [h.opn]
  simp [hasB, pkT]
theorem TInv.left (h : TInv i lst σ ρ) (now : Nat) : (leftA (sentS σ (pkT i now)) [(i, i)]).opens = [] := by
  show (sentS σ (pkT i now)).opens.filter _ = []
  rw [h.opn]
  simp [hasB, pkT]
theorem TInv.acked (h : TInv i lst σ ρ) (now n d : Nat) : ackS (sentS σ (pkT i now)) [(i, i)] (now + n) d = { sampleS (leftA (sentS σ (pkT i now)) [(i, i)]) n d with largest := (i : Int) } := by
  have e : now + n - min now (now + n) = n := by omega
  have hl : (goneA (sentS σ (pkT i now)) [(i, i)]).getLast? = some (pkT i now) := by rw [h.gone]; rfl
  unfold ackS
  rw [hl]
  have h2 : (sentS σ (pkT i now)).largest < ((pkT i now).pn : Int) := by
    show σ.largest < (i : Int)
    rw [h.lg]
    omega
  simp only [if_pos h2]
  show { sampleS (leftA (sentS σ (pkT i now)) [(i, i)]) (now + n - min now (now + n)) d with largest := (i : Int) } = _
  rw [e]
theorem TInv.none (h : TInv i lst σ ρ) (now n d : Nat) : lostL (ackS (sentS σ (pkT i now)) [(i, i)] (now + n) d) (now + n) = [] := by
  unfold lostL
  rw [(ackS_same _ _ _ _).1, h.left]
  rfl
theorem TInv.next (h : TInv i lst σ ρ) (hi : i ≤ 100) (hok : σ.Ok) (now n d : Nat) (hn : n ≤ 255) :
    TInv (i + 1) (min lst n) (lostS (ackS (sentS σ (pkT i now)) [(i, i)] (now + n) d) (now + n)) (sampR (shutR (sendR ρ (pkT i now)) (pkT i now)) (now + n - now) d) := by
  have e1 : now + n - now = n := by omega
  have hle := h.left now
  have hsame := sampleS_opens (leftA (sentS σ (pkT i now)) [(i, i)]) n d
  have hst := h.sent hi hok now
  rw [h.acked, e1]
  have hs1 : (sampR (shutR (sendR ρ (pkT i now)) (pkT i now)) n d).sent = ρ.sent ++ [pkT i now] ∧ (sampR (shutR (sendR ρ (pkT i now)) (pkT i now)) n d).top = (i : Int) := by
    unfold sampR
    split <;> exact ⟨rfl, rfl⟩
  have hm : (sampleS (leftA (sentS σ (pkT i now)) [(i, i)]) n d).meas = true := by
    unfold sampleS
    split
    · next h => exact h
    · rfl
  have key : (sampleS (leftA (sentS σ (pkT i now)) [(i, i)]) n d).smooth = (sampR (shutR (sendR ρ (pkT i now)) (pkT i now)) n d).smooth ∧ (sampleS (leftA (sentS σ (pkT i now)) [(i, i)]) n d).varied = (sampR (shutR (sendR ρ (pkT i now)) (pkT i now)) n d).varied ∧ (sampleS (leftA (sentS σ (pkT i now)) [(i, i)]) n d).least = (sampR (shutR (sendR ρ (pkT i now)) (pkT i now)) n d).least ∧
      (sampleS (leftA (sentS σ (pkT i now)) [(i, i)]) n d).least = min lst n ∧ min lst n ≤ (sampleS (leftA (sentS σ (pkT i now)) [(i, i)]) n d).smooth + 7 := by
    by_cases h0 : 0 < i
    · have m1 : (leftA (sentS σ (pkT i now)) [(i, i)]).meas = true := by show σ.meas = true; rw [h.ms]; simp [h0]
      have m2 : (shutR (sendR ρ (pkT i now)) (pkT i now)).samp = true := by show ρ.samp = true; rw [h.sm]; simp [h0]
      obtain ⟨q1, q2, q3⟩ := h.eq h0
      have q4 := h.le h0
      have q5 := h.lo h0
      have a1 := adj_ge (min lst n) n d (by omega)
      unfold sampleS sampR
      rw [if_pos m1, if_pos m2]
      show (7 * σ.smooth + adj (min σ.least n) n d) / 8 = (7 * ρ.smooth + adj (min ρ.least n) n d) / 8 ∧ (3 * σ.varied + (max σ.smooth (adj (min σ.least n) n d) - min σ.smooth (adj (min σ.least n) n d))) / 4 = (3 * ρ.varied + (max ρ.smooth (adj (min ρ.least n) n d) - min ρ.smooth (adj (min ρ.least n) n d))) / 4 ∧ min σ.least n = min ρ.least n ∧ min σ.least n = min lst n ∧ min lst n ≤ (7 * σ.smooth + adj (min σ.least n) n d) / 8 + 7
      rw [← q1, ← q2, ← q3, q4]
      exact ⟨rfl, rfl, rfl, rfl, by omega⟩
    · have m1 : (leftA (sentS σ (pkT i now)) [(i, i)]).meas = false := by show σ.meas = false; rw [h.ms]; simp [h0]
      have m2 : (shutR (sendR ρ (pkT i now)) (pkT i now)).samp = false := by show ρ.samp = false; rw [h.sm]; simp [h0]
      have q := h.l0 (by omega)
      unfold sampleS sampR
      rw [m1, m2]
      show n = n ∧ n / 2 = n / 2 ∧ n = n ∧ n = min lst n ∧ min lst n ≤ n + 7
      omega
  obtain ⟨k1, k2, k3, k4, k5⟩ := key
  refine ⟨?_, fun x => ?_, ?_, by show (i : Int) = _; omega, ?_, ?_, ?_, fun _ => ⟨k1, k2, k3⟩, fun _ => k4, fun _ => k5, fun h => by omega, ?_, fun t ht => ?_, sampR_shut _ _ _ (shutR_shut _ _), ?_⟩
  · show (sampleS _ n d).opens.filter _ = []
    rw [hsame.1, hle]
    rfl
  · show inR x (sampleS _ n d).sent ↔ _
    rw [hsame.2.1]
    exact hst x
  · show (sampleS _ n d).last = _
    rw [hsame.2.2.2.1]
    show (i : Int) = _
    omega
  · show (sampleS _ n d).tot = _
    rw [hsame.2.2.1]
    show σ.tot + 1 = _
    rw [h.tot]
  · show (sampleS _ n d).meas = _
    rw [hm]
    simp
  · rw [sampR_samp]
    simp
  · rw [hs1.1, List.length_append, h.rl]
    rfl
  · rw [hs1.1] at ht
    rcases List.mem_append.1 ht with g | g
    · have := h.rs t g
      omega
    · simp at g
      subst g
      show i < i + 1
      omega
  · rw [hs1.2]
    omega
theorem TInv.opnR (h : TInv i lst σ ρ) (hok : ρ.Ok) (now : Nat) : (sendR ρ (pkT i now)).opn = List.replicate ρ.sent.length false ++ [true] := by
  show ρ.opn ++ [true] = _
  rw [← hok.ln, ← List.eq_replicate_iff.2 ⟨rfl, h.sh⟩]
end
end Go.Proofs.Ythnokfchebmjiaa
