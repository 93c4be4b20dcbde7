/- Both ledgers side by side; the plain law of LedgerTimes. Conditions: none of their own. -/
import Derived.Test.YthnokfchebmjiaaTi
import Derived.Test.YthnokfchebmjiaaRt
namespace Go.Proofs.Ythnokfchebmjiaa
open Go.RowKit

/-- The document's ledger as a thing. -/
def tRL (q : Nat) (ρ : RL) (G : List Nat) : Thing := ⟨fun w => IsR w q G ρ, G, fun _ _ _ h hk hn => h.touch hk hn, fun _ h => h.lt⟩
/-- Both ledgers beside other things. -/
def L2 (w wk : World) (p : Nat) (σ : Ldg) (q : Nat) (ρ : RL) (L : List Thing) : Prop := ∃ G, LL w wk p σ (tRL q ρ G :: L)
section
variable {w wk w' : World} {p q : Nat} {σ τ : Ldg} {ρ : RL} {L : List Thing}
theorem L2.touch (h : L2 w wk p σ q ρ L) : Touch [] w wk := let ⟨_, h⟩ := h; h.touch
theorem L2.ok (h : L2 w wk p σ q ρ L) : σ.Ok := let ⟨_, h⟩ := h; h.ok
theorem L2.okR (h : L2 w wk p σ q ρ L) : ρ.Ok := let ⟨_, h⟩ := h; IsR.ok (h.get (List.mem_cons_self ..))
theorem L2.keep (h : L2 w wk p σ q ρ L) (hk : Touch [] wk w') : L2 w w' p σ q ρ L := let ⟨G, h⟩ := h; ⟨G, h.keep hk⟩
theorem L2.get {T : Thing} (h : L2 w wk p σ q ρ L) (hT : T ∈ L) : T.P wk := let ⟨_, h⟩ := h; h.get (List.mem_cons_of_mem _ hT)
theorem L2.drop {T : Thing} (h : L2 w wk p σ q ρ (T :: L)) : L2 w wk p σ q ρ L := let ⟨G, h⟩ := h; ⟨G, h.swap.drop⟩
theorem L2.more (h : L2 w wk p σ q ρ L) (hk : Touch [] wk w') (N : Thing) (hN : N.P w') (hB : ∀ g ∈ N.B, wk.heap.size ≤ g) : L2 w w' p σ q ρ (N :: L) := let ⟨G, h⟩ := h; ⟨G, (h.more hk N hN hB).swap⟩
theorem l2_newR (h : LL w wk p σ L) : Calls Try.prog 9 #[] wk fun e w' => ∃ q, e = .returned (.pointer (some ⟨q, 0, none⟩)) ∧ L2 w w' p σ q rho0 L := by
  refine (newR_any wk).mono ?_
  rintro e w' ⟨q, G, rfl, k1, k2, k3⟩
  exact ⟨q, rfl, G, h.more k2 (tRL q rho0 G) k1 k3⟩
theorem l2_send (h : L2 w wk p σ q ρ L) (s : Pkt) (hs : s.Ok) (hw1 : s.when_ ≤ 1099511627776) (hw2 : s.size ≤ 1099511627776) (ht : σ.tot < 100000) :
    Calls Try.prog 10 #[.pointer (some ⟨p, 0, none⟩), pktV s] wk fun e w' => e = .returned (.int .i64 (if sendBad σ s then 33 else 0)) ∧ L2 w w' p (if sendBad σ s then σ else sentS σ s) q ρ L := by
  obtain ⟨G, h⟩ := h
  refine (ll_send h s hs hw1 hw2 ht).mono ?_
  rintro e w' ⟨rfl, h⟩
  exact ⟨rfl, G, h⟩
theorem l2_sendR (h : L2 w wk p σ q ρ L) (s : Pkt) (hs : s.pn ≤ 4611686018427387903) (hw1 : s.when_ ≤ 1099511627776) (hw2 : s.size ≤ 1099511627776) (ht : ρ.sent.length < 100000) (hl : ∀ t ∈ ρ.sent, t.pn < s.pn) :
    Calls Try.prog 11 #[.pointer (some ⟨q, 0, none⟩), .agg #[.int .u64 (s.pn : Int), .int .u64 (s.when_ : Int), .int .i64 (s.size : Int), .bool s.eager]] wk fun e w' => e = .returned (.int .i64 0) ∧ L2 w w' p σ q (sendR ρ s) L := by
  obtain ⟨G, h⟩ := h
  refine (sendR_any wk q G ρ s (h.get (List.mem_cons_self ..)) hs hw1 hw2 ht hl).mono ?_
  rintro e w' ⟨rfl, G', k1, k2, k3⟩
  exact ⟨rfl, G', h.step k2 (N := tRL q (sendR ρ s) G') k1 k3⟩
theorem l2_rtt (h : L2 w wk p σ q ρ L) : Calls Try.prog 16 #[.pointer (some ⟨p, 0, none⟩)] wk fun e w' => e = .returned (.tuple #[.int .u64 (σ.smooth : Int), .int .u64 (σ.varied : Int), .int .u64 (σ.least : Int)]) ∧ L2 w w' p σ q ρ L := by
  obtain ⟨G, h⟩ := h
  refine (ll_rtt h).mono ?_
  rintro e w' ⟨rfl, h⟩
  exact ⟨rfl, G, h⟩
theorem l2_flight (h : L2 w wk p σ q ρ L) : Calls Try.prog 17 #[.pointer (some ⟨p, 0, none⟩)] wk fun e w' => e = .returned (.int .i64 (flight σ.opens : Int)) ∧ L2 w w' p σ q ρ L := by
  obtain ⟨G, h⟩ := h
  refine (ll_flight h).mono ?_
  rintro e w' ⟨rfl, h⟩
  exact ⟨rfl, G, h⟩
theorem l2_alike (h : L2 w wk p σ q ρ L) (hop : σ.opens = []) (hsh : ρ.Shut) (hsa : ρ.samp = true) (e1 : σ.smooth = ρ.smooth) (e2 : σ.varied = ρ.varied) (e3 : σ.least = ρ.least) (e4 : σ.largest = ρ.top) :
    Calls Try.prog 15 #[.pointer (some ⟨p, 0, none⟩), .pointer (some ⟨q, 0, none⟩)] wk fun e w' => e = .returned (.bool true) ∧ L2 w w' p σ q ρ L := by
  have hh := h
  obtain ⟨G, F, h⟩ := h
  refine (alike_any wk p q F G σ ρ h.head (h.get (T := tRL q ρ G) (by simp)) hop hsh hsa e1 e2 e3 e4).mono ?_
  rintro e w' ⟨rfl, k⟩
  exact ⟨rfl, hh.keep k⟩
/-- A range in a block of the law's own. -/
def tRd (v : Value) (R : List Rng) : Thing := ⟨fun w => Rd w 2 v R.length (cr R) ∧ ∀ g ∈ own v, g < w.heap.size, own v, fun _ _ _ h hk hn => ⟨h.1.touch hk hn, fun g hg => Nat.lt_of_lt_of_le (h.2 g hg) hk.size⟩, fun _ h => h.2⟩
theorem l2_ack {v : Value} {R : List Rng} (h : L2 w wk p σ q ρ (tRd v R :: L)) (now delay : Nat) (hL : R.length ≤ 100000) (hb : ackBad σ R = false) (hnow : now ≤ 1099511627776) (hdel : delay < 18446744073709551616) :
    Calls Try.prog 12 #[.pointer (some ⟨p, 0, none⟩), v, .int .u64 (now : Int), .int .u64 (delay : Int)] wk fun e w2 => ∃ v1 v2, e = .returned (.tuple #[v1, v2, .int .i64 0]) ∧ L2 w w2 p (lostS (ackS σ R now delay) now) q ρ (tS v1 (pns (goneA σ R)) :: tS v2 (pns (lostL (ackS σ R now delay) now)) :: tRd v R :: L) := by
  obtain ⟨G, F, h⟩ := h
  have hlt := h.head.lt
  have hr : Rd wk 2 v R.length (cr R) ∧ ∀ g ∈ own v, g < wk.heap.size := h.get (T := tRd v R) (by simp)
  have hd := (List.pairwise_cons.1 h.2.2).1 (tRd v R) (by simp)
  obtain ⟨ar, c, rfl⟩ := hr.1.form
  refine (ack_good wk p F σ ar c R now delay h.head hr.1 (fun g hg => ⟨hr.2 g hg, fun hm => hd g hm hg⟩) hL hb hnow hdel).mono ?_
  rintro e w2 ⟨v1, v2, rfl, k1, k2, ⟨F', g1, g2, g3⟩, k3, k4⟩
  rw [← pns_len] at k1 k2
  have h3 := h.go g2 [tL p _ F', tS v1 _, tS v2 _] (by
    intro N hN
    simp at hN
    rcases hN with rfl | rfl | rfl
    · exact ⟨g1, fun g hg => .inl (g3 g hg)⟩
    · exact ⟨k1, fun g hg => .inr (k3 g hg)⟩
    · exact ⟨k2, fun g hg => .inr (k4 g hg).1⟩) (by
    simp
    refine ⟨⟨fun g hg hm => ?_, fun g hg hm => ?_⟩, fun g hg hm => ?_⟩
    · have := hlt g (g3 g hg)
      have := k3 g hm
      omega
    · have := hlt g (g3 g hg)
      have := (k4 g hm).1
      omega
    · exact (k4 g hm).2 hg)
  have h4 : LL w w2 p (lostS (ackS σ R now delay) now) (tS v1 (pns (goneA σ R)) :: tS v2 (pns (lostL (ackS σ R now delay) now)) :: tRL q ρ G :: tRd (.slice ar R.length c) R :: L) := ⟨F', h3⟩
  refine ⟨v1, v2, rfl, G, ?_⟩
  have h5 := h4
  obtain ⟨F5, h5⟩ := h5
  -- the document's ledger comes first
  have h6 : Sep w w2 (tL p (lostS (ackS σ R now delay) now) F5 :: tRL q ρ G :: tS v1 (pns (goneA σ R)) :: tS v2 (pns (lostL (ackS σ R now delay) now)) :: tRd (.slice ar R.length c) R :: L) := by
    obtain ⟨a1, a2, a3⟩ := h5
    refine ⟨a1, fun T hT => a2 T (by simp only [List.mem_cons] at hT ⊢; rcases hT with h | h | h | h | h | h <;> simp [h]), ?_⟩
    simp only [List.pairwise_cons, List.mem_cons, forall_eq_or_imp] at a3 ⊢
    obtain ⟨⟨b1, b2, b3, b4⟩, ⟨b5, b6, b7⟩, ⟨b8, b9⟩, b10, b11⟩ := a3
    exact ⟨⟨b3, b1, b2, b4⟩, ⟨fun g hg hm => b6 g hm hg, fun g hg hm => b8 g hm hg, b10⟩, ⟨b5, b7⟩, b9, b11⟩
  exact ⟨F5, h6⟩
theorem l2_ackR {v : Value} (h : L2 w wk p σ q ρ L) (s : Pkt) (old : List Pkt) (hv : tRd v [(s.pn, s.pn)] ∈ L) (now delay : Nat) (hsent : ρ.sent = old ++ [s]) (hopn : ρ.opn = List.replicate old.length false ++ [true]) (hold : ∀ t ∈ old, t.pn < s.pn) (htop : ρ.top < (s.pn : Int)) (heag : s.eager = true)
    (hnow : now ≤ 1099511627776) (hdel : delay < 18446744073709551616) :
    Calls Try.prog 13 #[.pointer (some ⟨q, 0, none⟩), v, .int .u64 (now : Int), .int .u64 (delay : Int)] wk fun e w2 => ∃ v1, e = .returned (.tuple #[v1, .slice none 0 0, .int .i64 0]) ∧ L2 w w2 p σ q (sampR (shutR ρ s) (now - s.when_) delay) (tS v1 [s.pn] :: L) := by
  obtain ⟨G, F, h⟩ := h
  have h := h.swap
  have hr : Rd wk 2 v 1 (cr [(s.pn, s.pn)]) ∧ ∀ g ∈ own v, g < wk.heap.size := h.get (T := tRd v [(s.pn, s.pn)]) (by simp [hv])
  have hd := (List.pairwise_cons.1 h.2.2).1 (tRd v [(s.pn, s.pn)]) (by simp [hv])
  have hlt := h.head.lt
  obtain ⟨ar, c, rfl⟩ := hr.1.form
  refine (ackR_any wk q G ρ s old ar c now delay h.head hsent hopn hold htop heag hnow hdel hr.1 (fun g hg hm => hd g hm hg)).mono ?_
  rintro e w2 ⟨v1, rfl, k1, k2, k3, k4⟩
  have h3 := h.go k3 [tRL q (sampR (shutR ρ s) (now - s.when_) delay) G, tS v1 [s.pn]] (by
    intro N hN
    simp at hN
    rcases hN with rfl | rfl
    · exact ⟨k2, fun g hg => .inl hg⟩
    · exact ⟨k1, fun g hg => .inr (k4 g hg)⟩) (by
    simp
    intro g hg hm
    have := hlt g hg
    have := k4 g hm
    omega)
  refine ⟨v1, rfl, G, F, ?_⟩
  obtain ⟨a1, a2, a3⟩ := h3
  simp only [List.cons_append, List.nil_append] at a2 a3
  refine ⟨a1, fun T hT => a2 T (by simp only [List.mem_cons] at hT ⊢; rcases hT with h | h | h | h <;> simp [h]), ?_⟩
  simp only [List.pairwise_cons, List.mem_cons, forall_eq_or_imp] at a3 ⊢
  obtain ⟨⟨b1, b2, b3⟩, ⟨b4, b5⟩, b6, b7⟩ := a3
  exact ⟨⟨fun g hg hm => b2 g hm hg, fun g hg hm => b4 g hm hg, b6⟩, ⟨b1, b3⟩, b5, b7⟩
end
end Go.Proofs.Ythnokfchebmjiaa
