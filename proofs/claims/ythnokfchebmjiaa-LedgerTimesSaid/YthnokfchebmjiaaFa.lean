/- The plain law of LedgerFar: what was sent whole. Conditions: none of their own. -/
import Derived.Test.YthnokfchebmjiaaMp
namespace Go.Proofs.Ythnokfchebmjiaa
open Go.RowKit

theorem wh_iff : ∀ {L : List Rng} {c a b : Nat}, V L c → a ≤ b → (whB a b L = true ↔ ∀ x, a ≤ x → x ≤ b → inR x L)
  | [], c, a, b, _, hab => by
    constructor
    · intro h; simp [whB] at h
    · intro h; exact absurd (h a (Nat.le_refl _) hab) (inR_nil _)
  | x :: L, c, a, b, hV, hab => by
    have ih := wh_iff (a := a) (b := b) hV.tail hab
    have hx := hV.2 x (by simp)
    have e : whB a b (x :: L) = ((decide (x.1 ≤ a) && decide (b ≤ x.2)) || whB a b L) := by unfold whB; rw [List.any_cons]
    rw [e]
    constructor
    · intro h z h1 h2
      rw [inR_cons]
      rcases Bool.or_eq_true_iff.1 h with h | h
      · simp at h
        exact .inl (by omega)
      · exact .inr (ih.1 h z h1 h2)
    · intro h
      have ha := h a (Nat.le_refl _) hab
      rw [inR_cons] at ha
      rcases ha with ha | ha
      · by_cases hb : b ≤ x.2
        · simp [ha, hb]
        · have hn := h (x.2 + 1) (by omega) (by omega)
          rw [inR_cons] at hn
          rcases hn with hn | ⟨y, hy, h1, h2⟩
          · omega
          · have := hV.head y hy
            omega
      · have : whB a b L = true := ih.2 (fun z h1 h2 => by
          have hz := h z h1 h2
          rw [inR_cons] at hz
          rcases hz with hz | hz
          · obtain ⟨y, hy, h3, h4⟩ := ha
            have := hV.head y hy
            omega
          · exact hz)
        rw [this]
        simp
/-- All below the j-th number behind a are among ps. -/
def oks (ps : List Nat) (a : Nat) : Nat → Bool
  | 0 => true
  | j + 1 => oks ps a j && decide (a + j ∈ ps)
theorem oks_iff (ps : List Nat) (a : Nat) : ∀ j, oks ps a j = true ↔ ∀ x, a ≤ x → x < a + j → x ∈ ps
  | 0 => by simp [oks]; intro x h1 h2; omega
  | j + 1 => by
    unfold oks
    rw [Bool.and_eq_true, oks_iff ps a j, decide_eq_true_iff]
    constructor
    · rintro ⟨h1, h2⟩ x h3 h4
      by_cases hx : x = a + j
      · rw [hx]; exact h2
      · exact h1 x h3 (by omega)
    · intro h
      exact ⟨fun x h1 h2 => h x h1 (by omega), h _ (by omega) (by omega)⟩
def pkF (x : Nat) : Pkt := ⟨x, 0, 2, true⟩
/-- The ledger to which just the packets ps were sent, the last of them at. -/
structure FInv (k tp : Nat) (ps : List Nat) (σ : Ldg) : Prop where
  op : σ.opens = ps.map pkF
  ln : ps.length = k
  la : σ.last ≤ (tp : Int)
  mem : ∀ x, inR x σ.sent ↔ x ∈ ps
  lg : σ.largest = -1
  tot : σ.tot = k
  top : tp ≤ 3 * k
theorem FInv.zero : FInv 0 0 [] led0 := ⟨rfl, rfl, by decide, fun x => by simp [led0, inR], rfl, rfl, Nat.le_refl _⟩
section
variable {k tp : Nat} {ps : List Nat} {σ : Ldg}
theorem FInv.fine (h : FInv k tp ps σ) (hk : k ≤ 20) (y : Nat) (hy : tp < y) (hy3 : y ≤ tp + 3) : sendBad σ (pkF y) = false := by
  have := h.la
  have := h.top
  unfold sendBad mx pkF
  simp
  omega
theorem FInv.next (h : FInv k tp ps σ) (hk : k ≤ 20) (hok : σ.Ok) (y : Nat) (hy : tp < y) (hy3 : y ≤ tp + 3) : FInv (k + 1) y (ps ++ [y]) (sentS σ (pkF y)) := by
  have ht := h.top
  refine ⟨?_, by simp [h.ln], Int.le_refl _, fun x => ?_, h.lg, by show σ.tot + 1 = _; rw [h.tot], by omega⟩
  · show σ.opens ++ [pkF y] = _
    rw [h.op, List.map_append]
    rfl
  · show inR x (spOp σ.sent 0 y y) ↔ _
    rw [spOp_mem hok.sent y y x (by unfold mx; omega), h.mem, List.mem_append, List.mem_singleton]
    constructor
    · rintro (h | h)
      · exact .inl h
      · exact .inr (by omega)
    · rintro (h | h)
      · exact .inl h
      · exact .inr (by omega)
theorem FInv.bad (h : FInv k tp ps σ) (hok : σ.Ok) {a b : Nat} (hab : a ≤ b) : ackBad σ [(a, b)] = !oks ps a (b + 1 - a) := by
  have e1 : ackBad σ [(a, b)] = !whB a b σ.sent := by
    unfold ackBad
    simp
    omega
  rw [e1]
  congr 1
  rw [Bool.eq_iff_iff, wh_iff hok.sent hab, oks_iff]
  constructor
  · intro h1 x h2 h3
    exact (h.mem x).1 (h1 x h2 (by omega))
  · intro h1 x h2 h3
    exact (h.mem x).2 (h1 x h2 (by omega))
theorem bad_turned {σ : Ldg} {a b : Nat} (hab : ¬ a ≤ b) : ackBad σ [(a, b)] = true := by
  unfold ackBad
  simp
  exact .inl (by omega)
theorem last_max : ∀ {l : List Pkt} {c : Pkt}, l.Pairwise (fun s t => s.pn < t.pn) → c ∈ l → (∀ s ∈ l, s.pn ≤ c.pn) → l.getLast? = some c
  | [], _, _, h, _ => by cases h
  | [x], c, _, h, _ => by simp at h; simp [h]
  | x :: y :: l, c, hp, hc, hm => by
    obtain ⟨h1, h2⟩ := List.pairwise_cons.1 hp
    rw [List.getLast?_cons_cons]
    refine last_max h2 ?_ (fun s hs => hm s (by simp only [List.mem_cons] at hs ⊢; exact .inr hs))
    rcases List.mem_cons.1 hc with rfl | hc
    · have h3 := h1 y (by simp)
      have h4 := hm y (by simp)
      omega
    · exact hc
theorem ack_largest {σ : Ldg} (hok : σ.Ok) {L : List Rng} {now delay : Nat} {c : Pkt} (hc : c ∈ σ.opens) (h1 : hasB c.pn L = true) (h2 : ∀ x, hasB x L = true → x ≤ c.pn) (h3 : σ.largest < (c.pn : Int)) : (lostS (ackS σ L now delay) now).largest = (c.pn : Int) := by
  have hl : (goneA σ L).getLast? = some c := by
    unfold goneA
    exact last_max (hok.rise.filter _) (List.mem_filter.2 ⟨hc, h1⟩) (fun s hs => h2 _ (List.mem_filter.1 hs).2)
  show (ackS σ L now delay).largest = _
  unfold ackS
  rw [hl]
  simp only [if_pos h3]
theorem FInv.good (h : FInv k tp ps σ) (hok : σ.Ok) {a b : Nat} (hab : a ≤ b) (ho : oks ps a (b + 1 - a) = true) (now delay : Nat) : (lostS (ackS σ [(a, b)] now delay) now).largest = (b : Int) := by
  have hb := (oks_iff ps a _).1 ho b hab (by omega)
  refine ack_largest hok (c := pkF b) (by rw [h.op]; exact List.mem_map.2 ⟨b, hb, rfl⟩) (by simp [hasB, pkF, hab]) (fun x hx => ?_) (by rw [h.lg]; show (-1 : Int) < ((b : Nat) : Int); omega)
  simp [hasB] at hx
  exact hx.2
end
end Go.Proofs.Ythnokfchebmjiaa
