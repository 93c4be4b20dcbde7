/- The program's half and the document's, side by side. Conditions: both are in order. -/
import Derived.Test.YtmidlielcioinaaHF
namespace Go.Proofs.Ytmidlielcioinaa
open Go.RowKit

set_option maxRecDepth 100000 in
/-- The document's Next, for a half that is the program's. -/
theorem hnext_any (w : World) (p : Nat) (F : List Nat) (σ : Snd) (n : Int) (h : IsHlf w p F (halfOf σ)) (hp : Pl σ) (hn : n ≤ 9223372036854775807) :
    Calls Try.prog 22 #[.pointer (some ⟨p, 0, none⟩), .int .i64 n] w fun e w' => ∃ v, e = .returned (.tuple #[.int .u64 ((nextS σ n.toNat).1.1 : Int), v, .bool (nextS σ n.toNat).1.2.2.1, .bool (nextS σ n.toNat).1.2.2.2]) ∧ Rd w' 1 v (nextS σ n.toNat).1.2.1.length (bs (nextS σ n.toNat).1.2.1) ∧ StepHV w p F (halfOf (nextS σ n.toNat).2) w' v ∧ ∀ g ∈ own v, w.heap.size ≤ g := by
  cases hr : σ.reset with
  | true =>
    have HP : Hid (nextS σ n.toNat = ((0, [], false, false), σ)) := Lib.hid (by unfold nextS; rw [hr]; rfl)
    have HH := Lib.hid h
    obtain ⟨ab, az, cb, cz, h1, _⟩ := h
    have c5 := h1.cell 5
    have hl := h1.lt
    simp only [hcells, List.getElem?_cons_zero, List.getElem?_cons_succ] at c5
    rw [show (halfOf σ).gone = true from hr] at c5
    clear h1 hr
    rw [HP.out]
    go_enter Try.func22, Try.ntmps22
    go_wp2_with fail
    refine bodyPost_ret (v := .tuple #[.int .u64 0, .slice none 0 0, .bool false, .bool false]) (by simp [results, Try.results22, go_sem]) rfl ?_
    exact ⟨_, rfl, ⟨rfl, .inl ⟨_, _, rfl, rfl⟩⟩, ⟨F, HH.out, Touch.refl _ _, fun g hg => .inl hg, by simp⟩, by simp⟩
  | false =>
    obtain ⟨A2, A0, A, K, E, φ, P, hP⟩ := next_plan hp hr n
    refine (hnext_walk w p F (halfOf σ) n A2 A0 A K E φ h hn hr P).mono ?_
    rintro e w' ⟨g1, g2⟩
    rcases hP with ⟨e1, e2, e3⟩ | ⟨e1, τ, e2, e3, e4⟩
    · obtain ⟨rfl, hT⟩ := g1 ⟨e1, e2⟩
      rw [e3]
      exact ⟨_, rfl, ⟨rfl, .inl ⟨_, _, rfl, rfl⟩⟩, ⟨F, h.keep hT, hT.mono (by simp), fun g hg => .inl hg, by simp⟩, by simp⟩
    · obtain ⟨v, rfl, k1, k2, k3⟩ := g2 e1
      rw [e2, ← e4]
      have hl : ((σ.b.drop A).take (E - A)).length = E - A := by
        have h1 := P.hi
        have h2 := P.lo
        have h3 : (halfOf σ).b = σ.b := rfl
        rw [h3] at h1
        simp; omega
      exact ⟨v, rfl, by show Rd w' 1 v ((σ.b.drop A).take (E - A)).length _; rw [hl]; exact k1, k2, k3⟩
theorem next_pl {σ : Snd} (h : Pl σ) (n : Int) : Pl (nextS σ n.toNat).2 := by
  cases hr : σ.reset with
  | true =>
    have : nextS σ n.toNat = ((0, [], false, false), σ) := by unfold nextS; rw [hr]; rfl
    rw [this]; exact h
  | false =>
    obtain ⟨A2, A0, A, K, E, φ, P, hP⟩ := next_plan h hr n
    rcases hP with ⟨e1, e2, e3⟩ | ⟨e1, τ, e2, e3, e4⟩
    · rw [e3]; exact h
    · rw [e2]; exact e3
theorem next_b (σ : Snd) (n : Nat) : (nextS σ n).2.b = σ.b := by
  unfold nextS
  split
  · rfl
  · split
    · split
      · exact (chunkS_same _ _ _).1
      · rfl
    · split
      · exact (chunkS_same _ _ _).1
      · split
        · exact (chunkS_same _ _ _).1
        · rfl

/-- The program's half σ at p and the document's for τ at q; what was handed out (D) and the law's own blocks (Xs) beside them. -/
def Pair (w wk : World) (p q : Nat) (σ τ : Snd) (D : List (Value × List Nat)) (Xs : List (Nat × List Value)) : Prop :=
  ∃ F G, IsSnd wk p F σ ∧ IsHlf wk q G (halfOf τ) ∧ (∀ g ∈ F, w.heap.size ≤ g) ∧ (∀ g ∈ G, w.heap.size ≤ g) ∧ (∀ g ∈ F, g ∉ G) ∧ Touch [] w wk ∧
    (∀ d ∈ D, Rd wk 1 d.1 d.2.length (bs d.2) ∧ (0 < d.2.length → ∀ x ∈ own d.1, x ∉ F ∧ x ∉ G ∧ x < wk.heap.size)) ∧ (∀ x ∈ Xs, IsBlk wk x.1 x.2 47 ∧ x.1 ∉ F ∧ x.1 ∉ G ∧ w.heap.size ≤ x.1)
section
variable {w wk w' : World} {p q : Nat} {σ τ σ' τ' : Snd} {D : List (Value × List Nat)} {Xs : List (Nat × List Value)}
theorem Pair.touch (h : Pair w wk p q σ τ D Xs) : Touch [] w wk := by
  obtain ⟨F, G, _, _, _, _, _, h6, _⟩ := h
  exact h6
theorem Pair.keep (h : Pair w wk p q σ τ D Xs) (hk : Touch [] wk w') : Pair w w' p q σ τ D Xs := by
  obtain ⟨F, G, h1, h2, h3, h4, h5, h6, h7, h8⟩ := h
  exact ⟨F, G, h1.keep hk, h2.keep hk, h3, h4, h5, h6.trans hk (by simp), fun d hd => ⟨(h7 d hd).1.touch hk (by simp), fun h0 x hx => let ⟨a, b, c⟩ := (h7 d hd).2 h0 x hx; ⟨a, b, Nat.lt_of_lt_of_le c hk.size⟩⟩, fun x hx => ⟨(h8 x hx).1.touch hk (by simp), (h8 x hx).2⟩⟩
theorem Pair.bare (h : Pair w wk p q σ τ D Xs) : Pair w wk p q σ τ [] [] := by
  obtain ⟨F, G, h1, h2, h3, h4, h5, h6, h7, h8⟩ := h
  exact ⟨F, G, h1, h2, h3, h4, h5, h6, by simp, by simp⟩
theorem Pair.drop (h : Pair w wk p q σ τ D Xs) : Pair w wk p q σ τ [] Xs := by
  obtain ⟨F, G, h1, h2, h3, h4, h5, h6, h7, h8⟩ := h
  exact ⟨F, G, h1, h2, h3, h4, h5, h6, by simp, h8⟩
/-- A block of the law's own is laid. -/
theorem Pair.lay {X : Nat} {cs : List Value} (h : Pair w wk p q σ τ [] []) (hk : Touch [] wk w') (hB : IsBlk w' X cs 47) (hX : X = wk.heap.size) : Pair w w' p q σ τ [] [(X, cs)] := by
  have ht := h.touch.size
  obtain ⟨F, G, h1, h2, h3, h4, h5, h6, h7, h8⟩ := h
  exact ⟨F, G, h1.keep hk, h2.keep hk, h3, h4, h5, h6.trans hk (by simp), by simp, fun x hx => by
    simp at hx
    subst hx
    exact ⟨hB, fun hm => by have := h1.lt _ hm; omega, fun hm => by have := h2.lt _ hm; omega, by show w.heap.size ≤ X; omega⟩⟩
theorem Pair.blk {X : Nat} {cs : List Value} (h : Pair w wk p q σ τ D [(X, cs)]) : IsBlk wk X cs 47 := by
  obtain ⟨F, G, h1, h2, h3, h4, h5, h6, h7, h8⟩ := h
  exact (h8 (X, cs) (by simp)).1
theorem Pair.s_step {F G : List Nat} (h2 : IsHlf wk q G (halfOf τ)) (h3 : ∀ g ∈ F, w.heap.size ≤ g) (h4 : ∀ g ∈ G, w.heap.size ≤ g) (h5 : ∀ g ∈ F, g ∉ G) (h6 : Touch [] w wk)
    (h7 : ∀ d ∈ D, Rd wk 1 d.1 d.2.length (bs d.2) ∧ (0 < d.2.length → ∀ x ∈ own d.1, x ∉ F ∧ x ∉ G ∧ x < wk.heap.size)) (h8 : ∀ x ∈ Xs, IsBlk wk x.1 x.2 47 ∧ x.1 ∉ F ∧ x.1 ∉ G ∧ w.heap.size ≤ x.1) (h : Step wk p F σ' w') : Pair w w' p q σ' τ D Xs := by
  obtain ⟨F', k1, k2, k3⟩ := h
  have hs := h6.size
  refine ⟨F', G, k1, h2.touch k2 (fun g hg hm => h5 g hm hg), fun x hx => (k3 x hx).elim (h3 x) (fun h => by omega), h4, fun x hx hm => (k3 x hx).elim (fun h => h5 x h hm) (fun h => by have := h2.lt x hm; omega), h6.trans k2 (fun x hx => .inr (h3 x hx)), fun d hd => ⟨rd_touch (h7 d hd).1 k2 (fun h0 x hx => ((h7 d hd).2 h0 x hx).1), fun h0 x hx => ?_⟩, fun x hx => ?_⟩
  · obtain ⟨a, b, c⟩ := (h7 d hd).2 h0 x hx
    exact ⟨fun hm => (k3 x hm).elim a (fun h => by omega), b, Nat.lt_of_lt_of_le c k2.size⟩
  · obtain ⟨a, b, c, e⟩ := h8 x hx
    have hl := a.lt
    exact ⟨a.touch k2 b, fun hm => (k3 _ hm).elim b (fun h => by omega), c, e⟩
theorem Pair.h_step {F G : List Nat} (h1 : IsSnd wk p F σ) (h3 : ∀ g ∈ F, w.heap.size ≤ g) (h4 : ∀ g ∈ G, w.heap.size ≤ g) (h5 : ∀ g ∈ F, g ∉ G) (h6 : Touch [] w wk)
    (h7 : ∀ d ∈ D, Rd wk 1 d.1 d.2.length (bs d.2) ∧ (0 < d.2.length → ∀ x ∈ own d.1, x ∉ F ∧ x ∉ G ∧ x < wk.heap.size)) (h8 : ∀ x ∈ Xs, IsBlk wk x.1 x.2 47 ∧ x.1 ∉ F ∧ x.1 ∉ G ∧ w.heap.size ≤ x.1) (h : StepH wk q G (halfOf τ') w') : Pair w w' p q σ τ' D Xs := by
  obtain ⟨G', k1, k2, k3⟩ := h
  have hs := h6.size
  refine ⟨F, G', h1.touch k2 h5, k1, h3, fun x hx => (k3 x hx).elim (h4 x) (fun h => by omega), fun x hx hm => (k3 x hm).elim (h5 x hx) (fun h => by have := h1.lt x hx; omega), h6.trans k2 (fun x hx => .inr (h4 x hx)), fun d hd => ⟨rd_touch (h7 d hd).1 k2 (fun h0 x hx => ((h7 d hd).2 h0 x hx).2.1), fun h0 x hx => ?_⟩, fun x hx => ?_⟩
  · obtain ⟨a, b, c⟩ := (h7 d hd).2 h0 x hx
    exact ⟨a, fun hm => (k3 x hm).elim b (fun h => by omega), Nat.lt_of_lt_of_le c k2.size⟩
  · obtain ⟨a, b, c, e⟩ := h8 x hx
    have hl := a.lt
    exact ⟨a.touch k2 c, b, fun hm => (k3 _ hm).elim c (fun h => by omega), e⟩
theorem pr_write_s (h : Pair w wk p q σ τ D Xs) (v : Value) (n : Nat) (bb : List Nat) (fin : Bool) (hx : Rd wk 1 v n (bs bb)) (hb : bb.length = n) (hl : σ.b.length + n ≤ 50000) :
    Calls Try.prog 10 #[.pointer (some ⟨p, 0, none⟩), v, .bool fin] wk fun e w' => e = .returned (.bool (!(σ.ended || σ.reset))) ∧ Pair w w' p q (writeS σ bb fin) τ D Xs := by
  obtain ⟨F, G, h1, h2, h3, h4, h5, h6, h7, h8⟩ := h
  refine (write_any wk p F σ v n bb fin h1 hx hb hl).mono ?_
  rintro e w' ⟨rfl, k⟩
  exact ⟨rfl, Pair.s_step h2 h3 h4 h5 h6 h7 h8 k⟩
theorem pr_write_h (h : Pair w wk p q σ τ D Xs) (hp : Pl τ) (v : Value) (n : Nat) (bb : List Nat) (fin : Bool) (hx : Rd wk 1 v n (bs bb)) (hb : bb.length = n) (hl : τ.b.length + n ≤ 50000) :
    Calls Try.prog 21 #[.pointer (some ⟨q, 0, none⟩), v, .bool fin] wk fun e w' => e = .returned (.bool (!(τ.ended || τ.reset))) ∧ Pair w w' p q σ (writeS τ bb fin) D Xs := by
  obtain ⟨F, G, h1, h2, h3, h4, h5, h6, h7, h8⟩ := h
  refine (hwrite_any wk q G (halfOf τ) v n bb fin h2 hx hb hl).mono ?_
  rintro e w' ⟨rfl, k⟩
  rw [writeH_eq hp] at k
  exact ⟨rfl, Pair.h_step h1 h3 h4 h5 h6 h7 h8 k⟩
theorem pr_lost_s (h : Pair w wk p q σ τ D Xs) (off : Nat) (n : Int) (fin : Bool) (hn : n ≤ 9223372036854775807) (ho : off < 18446744073709551616) :
    Calls Try.prog 12 #[.pointer (some ⟨p, 0, none⟩), .int .u64 (off : Int), .int .i64 n, .bool fin] wk fun e w' => e = .returned (.tuple #[]) ∧ Pair w w' p q (lostS σ off n fin) τ D Xs := by
  obtain ⟨F, G, h1, h2, h3, h4, h5, h6, h7, h8⟩ := h
  refine (lost_any wk p F σ off n fin h1 hn ho).mono ?_
  rintro e w' ⟨rfl, k⟩
  exact ⟨rfl, Pair.s_step h2 h3 h4 h5 h6 h7 h8 k⟩
theorem pr_lost_h (h : Pair w wk p q σ τ D Xs) (hp : Pl τ) (off : Nat) (n : Int) (fin : Bool) (hn : n ≤ 9223372036854775807) (ho : off < 18446744073709551616) :
    Calls Try.prog 23 #[.pointer (some ⟨q, 0, none⟩), .int .u64 (off : Int), .int .i64 n, .bool fin] wk fun e w' => e = .returned (.tuple #[]) ∧ Pair w w' p q σ (lostS τ off n fin) D Xs := by
  obtain ⟨F, G, h1, h2, h3, h4, h5, h6, h7, h8⟩ := h
  refine (hlost_any wk q G (halfOf τ) off n fin h2 hn ho).mono ?_
  rintro e w' ⟨rfl, k⟩
  rw [mark_lost hp] at k
  exact ⟨rfl, Pair.h_step h1 h3 h4 h5 h6 h7 h8 k⟩
theorem pr_acked_s (h : Pair w wk p q σ τ D Xs) (off : Nat) (n : Int) (fin : Bool) (hn : n ≤ 9223372036854775807) (ho : off < 18446744073709551616) :
    Calls Try.prog 13 #[.pointer (some ⟨p, 0, none⟩), .int .u64 (off : Int), .int .i64 n, .bool fin] wk fun e w' => e = .returned (.tuple #[]) ∧ Pair w w' p q (ackS σ off n fin) τ D Xs := by
  obtain ⟨F, G, h1, h2, h3, h4, h5, h6, h7, h8⟩ := h
  refine (acked_any wk p F σ off n fin h1 hn ho).mono ?_
  rintro e w' ⟨rfl, k⟩
  exact ⟨rfl, Pair.s_step h2 h3 h4 h5 h6 h7 h8 k⟩
theorem pr_acked_h (h : Pair w wk p q σ τ D Xs) (hp : Pl τ) (off : Nat) (n : Int) (fin : Bool) (hn : n ≤ 9223372036854775807) (ho : off < 18446744073709551616) :
    Calls Try.prog 24 #[.pointer (some ⟨q, 0, none⟩), .int .u64 (off : Int), .int .i64 n, .bool fin] wk fun e w' => e = .returned (.tuple #[]) ∧ Pair w w' p q σ (ackS τ off n fin) D Xs := by
  obtain ⟨F, G, h1, h2, h3, h4, h5, h6, h7, h8⟩ := h
  refine (hacked_any wk q G (halfOf τ) off n fin h2 hn ho).mono ?_
  rintro e w' ⟨rfl, k⟩
  rw [mark_ack hp] at k
  exact ⟨rfl, Pair.h_step h1 h3 h4 h5 h6 h7 h8 k⟩
theorem pr_grow_s (h : Pair w wk p q σ τ D Xs) (n : Nat) :
    Calls Try.prog 18 #[.pointer (some ⟨p, 0, none⟩), .int .u64 (n : Int)] wk fun e w' => e = .returned (.tuple #[]) ∧ Pair w w' p q { σ with max := max σ.max (min n mx) } τ D Xs := by
  obtain ⟨F, G, h1, h2, h3, h4, h5, h6, h7, h8⟩ := h
  refine (grow_any wk p F σ n h1).mono ?_
  rintro e w' ⟨rfl, k⟩
  exact ⟨rfl, Pair.s_step h2 h3 h4 h5 h6 h7 h8 k⟩
theorem pr_grow_h (h : Pair w wk p q σ τ D Xs) (n : Nat) :
    Calls Try.prog 25 #[.pointer (some ⟨q, 0, none⟩), .int .u64 (n : Int)] wk fun e w' => e = .returned (.tuple #[]) ∧ Pair w w' p q σ { τ with max := max τ.max (min n mx) } D Xs := by
  obtain ⟨F, G, h1, h2, h3, h4, h5, h6, h7, h8⟩ := h
  refine (hgrow_any wk q G (halfOf τ) n h2).mono ?_
  rintro e w' ⟨rfl, k⟩
  exact ⟨rfl, Pair.h_step h1 h3 h4 h5 h6 h7 h8 k⟩
theorem pr_reset_s (h : Pair w wk p q σ τ D Xs) (n : Int) :
    Calls Try.prog 19 #[.pointer (some ⟨p, 0, none⟩), .int .u64 n] wk fun e w' => e = .returned (.tuple #[.int .u64 (if resetB σ then 0 else (σ.top : Int)), .bool (!resetB σ)]) ∧ Pair w w' p q (if resetB σ then σ else { σ with reset := true }) τ D Xs := by
  obtain ⟨F, G, h1, h2, h3, h4, h5, h6, h7, h8⟩ := h
  refine (reset_any wk p F σ n h1).mono ?_
  rintro e w' ⟨rfl, k⟩
  exact ⟨rfl, Pair.s_step h2 h3 h4 h5 h6 h7 h8 k⟩
theorem pr_reset_h (h : Pair w wk p q σ τ D Xs) (hp : Pl τ) :
    Calls Try.prog 26 #[.pointer (some ⟨q, 0, none⟩)] wk fun e w' => e = .returned (.tuple #[.int .u64 (if resetB τ then 0 else (τ.top : Int)), .bool (!resetB τ)]) ∧ Pair w w' p q σ (if resetB τ then τ else { τ with reset := true }) D Xs := by
  obtain ⟨F, G, h1, h2, h3, h4, h5, h6, h7, h8⟩ := h
  refine (hreset_any wk q G (halfOf τ) h2).mono ?_
  rintro e w' ⟨rfl, k⟩
  have e1 : topP (halfOf τ).s (halfOf τ).s.length = τ.top := by
    show topP (stL τ) (stL τ).length = _
    rw [stL_len, topP_st hp _ (Nat.le_refl _)]
    have := hp.ok.top
    omega
  rw [resetHB_eq hp] at k ⊢
  rw [e1]
  refine ⟨rfl, Pair.h_step h1 h3 h4 h5 h6 h7 h8 ?_⟩
  cases hb : resetB τ with
  | true => rw [hb] at k; exact k
  | false => rw [hb] at k; exact k
theorem pr_state_s (h : Pair w wk p q σ τ D Xs) : Calls Try.prog 14 #[.pointer (some ⟨p, 0, none⟩)] wk fun e w' => e = .returned (stateV σ) ∧ Pair w w' p q σ τ D Xs := by
  have hh := h
  obtain ⟨F, G, h1, h2, h3, h4, h5, h6, h7, h8⟩ := h
  refine (state_any wk p F σ h1).mono ?_
  rintro e w' ⟨rfl, k⟩
  exact ⟨rfl, hh.keep k⟩
theorem pr_state_h (h : Pair w wk p q σ τ D Xs) (hp : Pl τ) : Calls Try.prog 27 #[.pointer (some ⟨q, 0, none⟩)] wk fun e w' => e = .returned (stateV τ) ∧ Pair w w' p q σ τ D Xs := by
  have hh := h
  obtain ⟨F, G, h1, h2, h3, h4, h5, h6, h7, h8⟩ := h
  refine (hstate_any wk q G (halfOf τ) h2).mono ?_
  rintro e w' ⟨rfl, k⟩
  rw [state_eq hp]
  exact ⟨rfl, hh.keep k⟩
theorem pr_next_s (h : Pair w wk p q σ τ D Xs) (n : Int) (hn : n ≤ 9223372036854775807) :
    Calls Try.prog 11 #[.pointer (some ⟨p, 0, none⟩), .int .i64 n] wk fun e w' => ∃ v, e = .returned (.tuple #[.int .u64 ((nextS σ n.toNat).1.1 : Int), v, .bool (nextS σ n.toNat).1.2.2.1, .bool (nextS σ n.toNat).1.2.2.2]) ∧ Rd w' 1 v (nextS σ n.toNat).1.2.1.length (bs (nextS σ n.toNat).1.2.1) ∧ Pair w w' p q (nextS σ n.toNat).2 τ ((v, (nextS σ n.toNat).1.2.1) :: D) Xs := by
  obtain ⟨F, G, h1, h2, h3, h4, h5, h6, h7, h8⟩ := h
  refine (next_any wk p F σ n h1 hn).mono ?_
  rintro e w' ⟨v, rfl, k1, ⟨F', g1, g2, g3, g4⟩, k3⟩
  have hP := Pair.s_step (τ := τ) h2 h3 h4 h5 h6 h7 h8 ⟨F', g1, g2, g3⟩
  have hs := h6.size
  refine ⟨v, rfl, k1, F', G, g1, h2.touch g2 (fun g hg hm => h5 g hm hg), fun x hx => (g3 x hx).elim (h3 x) (fun h => by omega), h4, fun x hx hm => (g3 x hx).elim (fun h => h5 x h hm) (fun h => by have := h2.lt x hm; omega), h6.trans g2 (fun x hx => .inr (h3 x hx)), fun d hd => ?_, fun x hx => ?_⟩
  · rcases List.mem_cons.1 hd with rfl | hd
    · exact ⟨k1, fun h0 x hx => ⟨g4 x hx, fun hm => by have := k3 x hx; have := h2.lt x hm; omega, rd_lt k1 h0 x hx⟩⟩
    · refine ⟨rd_touch (h7 d hd).1 g2 (fun h0 x hx => ((h7 d hd).2 h0 x hx).1), fun h0 x hx => ?_⟩
      obtain ⟨a, b, c⟩ := (h7 d hd).2 h0 x hx
      exact ⟨fun hm => (g3 x hm).elim a (fun h => by omega), b, Nat.lt_of_lt_of_le c g2.size⟩
  · obtain ⟨a, b, c, e⟩ := h8 x hx
    have hl := a.lt
    exact ⟨a.touch g2 b, fun hm => (g3 _ hm).elim b (fun h => by omega), c, e⟩
theorem pr_next_h (h : Pair w wk p q σ τ D Xs) (hp : Pl τ) (n : Int) (hn : n ≤ 9223372036854775807) :
    Calls Try.prog 22 #[.pointer (some ⟨q, 0, none⟩), .int .i64 n] wk fun e w' => ∃ v, e = .returned (.tuple #[.int .u64 ((nextS τ n.toNat).1.1 : Int), v, .bool (nextS τ n.toNat).1.2.2.1, .bool (nextS τ n.toNat).1.2.2.2]) ∧ Rd w' 1 v (nextS τ n.toNat).1.2.1.length (bs (nextS τ n.toNat).1.2.1) ∧ Pair w w' p q σ (nextS τ n.toNat).2 D Xs := by
  obtain ⟨F, G, h1, h2, h3, h4, h5, h6, h7, h8⟩ := h
  refine (hnext_any wk q G τ n h2 hp hn).mono ?_
  rintro e w' ⟨v, rfl, k1, ⟨G', g1, g2, g3, _⟩, _⟩
  exact ⟨v, rfl, k1, Pair.h_step h1 h3 h4 h5 h6 h7 h8 ⟨G', g1, g2, g3⟩⟩
theorem Pair.rd {d : Value × List Nat} (h : Pair w wk p q σ τ (d :: D) Xs) : Rd wk 1 d.1 d.2.length (bs d.2) := by
  obtain ⟨F, G, h1, h2, h3, h4, h5, h6, h7, h8⟩ := h
  exact (h7 d (by simp)).1
end
/-- Both are made. -/
theorem pr_new (w wk : World) (n : Nat) (hT : Touch [] w wk) : Calls Try.prog 9 #[.int .u64 (n : Int)] wk fun e w' => ∃ p, e = .returned (.pointer (some ⟨p, 0, none⟩)) ∧ (∀ w2, Touch [] w' w2 → Touch [] w w2) ∧ ∃ F, IsSnd w' p F (snd0 n) ∧ (∀ g ∈ F, w.heap.size ≤ g) ∧ Touch [] w w' := by
  refine (newSend_any wk n).mono ?_
  rintro e w' ⟨p, F, rfl, k1, k2, k3⟩
  have := hT.size
  have ht : Touch [] w w' := hT.trans k2 (by simp)
  exact ⟨p, rfl, fun w2 h => ht.trans h (by simp), F, k1, fun g hg => by have := k3 g hg; omega, ht⟩
theorem pr_new2 {w w1 : World} {p n : Nat} {F : List Nat} (h : IsSnd w1 p F (snd0 n)) (hF : ∀ g ∈ F, w.heap.size ≤ g) (hT : Touch [] w w1) :
    Calls Try.prog 20 #[.int .u64 (n : Int)] w1 fun e w' => ∃ q, e = .returned (.pointer (some ⟨q, 0, none⟩)) ∧ Pair w w' p q (snd0 n) (snd0 n) [] [] := by
  refine (newHalf_any w1 n).mono ?_
  rintro e w' ⟨q, G, rfl, k1, k2, k3⟩
  have hs := hT.size
  exact ⟨q, rfl, F, G, h.keep k2, k1, hF, fun g hg => by have := k3 g hg; omega, fun g hg hm => by have := h.lt g hg; have := k3 g hm; omega, hT.trans k2 (by simp), by simp, by simp⟩
theorem new_pl (n : Nat) : Pl (snd0 n) := ⟨⟨V.nil 0, V.nil 0, by simp [snd0], by simp [snd0], by simp [snd0], by simp [snd0], by show min n mx ≤ _; unfold mx; omega, by simp [snd0], by simp [snd0]⟩, by simp [snd0, inR]⟩
end Go.Proofs.Ytmidlielcioinaa
