/- The document's half, in plain Lean, and that it goes as the program's. Conditions: none. -/
import Derived.Test.YtmidlielcioinaaV
namespace Go.Proofs.Ytmidlielcioinaa
open Go.RowKit

structure Hlf where
  max : Nat
  b : List Nat
  s : List Nat
  fin : Bool
  finS : Nat
  gone : Bool
  began : Bool
/-- What the document says of a byte. -/
def code (σ : Snd) (i : Nat) : Nat := if σ.top ≤ i then 0 else if hasB i σ.acked then 3 else if hasB i σ.lost then 2 else 1
def stL (σ : Snd) : List Nat := (List.range σ.b.length).map (code σ)
/-- The document's half for the program's. -/
def halfOf (σ : Snd) : Hlf := ⟨σ.max, σ.b, stL σ, σ.ended, σ.fin, σ.reset, decide (0 < σ.top ∨ 0 < σ.fin)⟩
theorem stL_len (σ : Snd) : (stL σ).length = σ.b.length := by simp [stL]
theorem stL_get (σ : Snd) (i : Nat) : (stL σ)[i]? = if i < σ.b.length then some (code σ i) else none := by
  unfold stL
  split
  · next h => simp [h]
  · next h => simp; omega
/-- The half is in order, and nothing is lost that was acknowledged. -/
structure Pl (σ : Snd) : Prop where
  ok : σ.Ok
  dis : ∀ x, inR x σ.lost → ¬ inR x σ.acked
theorem Pl.lost_top {σ : Snd} (h : Pl σ) {x : Nat} (hx : inR x σ.lost) : x < σ.top := by
  obtain ⟨y, hy, _, h2⟩ := hx
  have := h.ok.lt y hy
  omega
theorem Pl.acked_top {σ : Snd} (h : Pl σ) {x : Nat} (hx : inR x σ.acked) : x < σ.top := by
  obtain ⟨y, hy, _, h2⟩ := hx
  have := h.ok.at' y hy
  omega
theorem code_lt (σ : Snd) (i : Nat) : code σ i < 4 := by unfold code; split <;> (try split) <;> (try split) <;> omega
theorem code0 (σ : Snd) (i : Nat) : code σ i = 0 ↔ σ.top ≤ i := by
  unfold code
  by_cases h : σ.top ≤ i
  · rw [if_pos h]; simp [h]
  · rw [if_neg h]
    constructor
    · intro h2; split at h2 <;> (try split at h2) <;> cases h2
    · exact fun h2 => absurd h2 h
theorem code2 {σ : Snd} (h : Pl σ) (i : Nat) : code σ i = 2 ↔ inR i σ.lost := by
  unfold code
  by_cases h0 : σ.top ≤ i
  · rw [if_pos h0]
    exact ⟨fun h => (by cases h), fun h2 => by have := h.lost_top h2; omega⟩
  · rw [if_neg h0]
    cases ha : hasB i σ.acked with
    | true => exact ⟨fun h => (by cases h), fun h2 => absurd ((hasB_iff _ _).1 ha) (h.dis i h2)⟩
    | false =>
      cases hl : hasB i σ.lost with
      | true => exact ⟨fun _ => (hasB_iff _ _).1 hl, fun _ => rfl⟩
      | false => exact ⟨fun h => (by cases h), fun h2 => by rw [(hasB_iff _ _).2 h2] at hl; cases hl⟩
theorem code3 {σ : Snd} (h : Pl σ) (i : Nat) : code σ i = 3 ↔ inR i σ.acked := by
  unfold code
  by_cases h0 : σ.top ≤ i
  · rw [if_pos h0]
    exact ⟨fun h => (by cases h), fun h2 => by have := h.acked_top h2; omega⟩
  · rw [if_neg h0]
    cases ha : hasB i σ.acked with
    | true => exact ⟨fun _ => (hasB_iff _ _).1 ha, fun _ => rfl⟩
    | false =>
      refine ⟨fun h2 => ?_, fun h2 => by rw [(hasB_iff _ _).2 h2] at ha; cases ha⟩
      cases hl : hasB i σ.lost <;> rw [hl] at h2 <;> cases h2
/-- Codes are told by what they say. -/
theorem code_ext {σ τ : Snd} (hσ : Pl σ) (_ : Pl τ) {i c : Nat} (hc : c < 4) (h0 : c = 0 ↔ σ.top ≤ i) (h2 : c = 2 ↔ inR i σ.lost) (h3 : c = 3 ↔ inR i σ.acked) : code σ i = c := by
  have k := code_lt σ i
  have k0 := code0 σ i
  have k2 := code2 hσ i
  have k3 := code3 hσ i
  rw [← k0] at h0
  rw [← k2] at h2
  rw [← k3] at h3
  omega
theorem halfOf_ext {σ : Snd} {η : Hlf} (e1 : η.max = σ.max) (e2 : η.b = σ.b) (e3 : η.s.length = σ.b.length) (e4 : ∀ i, i < σ.b.length → η.s[i]? = some (code σ i)) (e5 : η.fin = σ.ended) (e6 : η.finS = σ.fin) (e7 : η.gone = σ.reset) (e8 : η.began = decide (0 < σ.top ∨ 0 < σ.fin)) : η = halfOf σ := by
  obtain ⟨a, b, c, d, e, f, g⟩ := η
  simp only at *
  subst e1 e2 e5 e6 e7 e8
  unfold halfOf
  congr 1
  apply List.ext_getElem?
  intro i
  rw [stL_get]
  split
  · next h => exact e4 i h
  · next h => exact List.getElem?_eq_none (by omega)

/-- Write. -/
def writeH (η : Hlf) (bb : List Nat) (fin : Bool) : Hlf := if η.fin || η.gone then η else { η with b := η.b ++ bb, s := η.s ++ List.replicate bb.length 0, fin := fin }
theorem write_pl {σ : Snd} (h : Pl σ) (bb : List Nat) (fin : Bool) (hl : σ.b.length + bb.length ≤ 50000) : Pl (writeS σ bb fin) := by
  unfold writeS
  split
  · exact h
  · have hok := h.ok
    exact ⟨⟨hok.lost, hok.acked, hok.lt, hok.at', by show σ.top ≤ (σ.b ++ bb).length; have := hok.top; simp; omega, hok.tm, hok.max, by show (σ.b ++ bb).length ≤ _; simp; omega, hok.fin⟩, h.dis⟩
theorem writeH_eq {σ : Snd} (h : Pl σ) (bb : List Nat) (fin : Bool) : writeH (halfOf σ) bb fin = halfOf (writeS σ bb fin) := by
  unfold writeH writeS
  show (if (σ.ended || σ.reset) = true then _ else _) = _
  split
  · rfl
  · have hto := h.ok.top
    refine halfOf_ext rfl rfl (by simp [halfOf, stL_len]) (fun i hi => ?_) rfl rfl rfl rfl
    show (stL σ ++ List.replicate bb.length 0)[i]? = some (code σ i)
    rw [List.getElem?_append]
    split
    · next h => rw [stL_len] at h; rw [stL_get, if_pos h]
    · next h =>
      rw [stL_len] at h
      have : i < σ.b.length + bb.length := by simpa using hi
      rw [(code0 σ i).2 (by omega), stL_len, List.getElem?_replicate, if_pos (by omega)]

/-- Grow. -/
theorem grow_pl {σ : Snd} (h : Pl σ) (n : Nat) : Pl { σ with max := max σ.max (min n mx) } := by
  have hok := h.ok
  exact ⟨⟨hok.lost, hok.acked, hok.lt, hok.at', hok.top, Nat.le_trans hok.tm (Nat.le_max_left _ _), by have := hok.max; show max σ.max (min n mx) ≤ _; unfold mx; omega, hok.len, hok.fin⟩, h.dis⟩
theorem growH_eq (σ : Snd) (n : Nat) : { halfOf σ with max := max σ.max (min n mx) } = halfOf { σ with max := max σ.max (min n mx) } := rfl

/-- What lost leaves. -/
theorem lostL_in {σ : Snd} (h : Pl σ) (off : Nat) (n : Int) (x : Nat) : inR x (lostL σ off n) ↔ (inR x σ.lost ∨ (off ≤ x ∧ x < off + n.toNat ∧ x < σ.top)) ∧ ¬ inR x σ.acked := by
  have hmx : mx = 4611686018427387903 := rfl
  have hok := h.ok
  have h1 := hok.top
  have h2 := hok.len
  unfold lostL spanR
  by_cases h0 : n < 1 ∨ σ.top ≤ off
  · rw [if_pos h0, if_neg (by decide)]
    constructor
    · exact fun g => ⟨.inl g, h.dis x g⟩
    · rintro ⟨g | g, _⟩
      · exact g
      · omega
  · rw [if_neg h0, if_pos rfl]
    have hV := spOp_V (V.nil 0) off (off + min n.toNat (σ.top - off) - 1)
    have hj := join_ok (t := σ.top) σ.lost _ hV (spOp_lt (V.nil 0) _ _ _ (by omega) (by simp) (by omega)) hok.lost hok.lt
    rw [wo_mem x _ _ 0 0 hj.1 hok.acked, join_mem x _ _ hV hok.lost, spOp_mem (V.nil 0) _ _ _ (by omega)]
    have hx : ¬ inR x [] := inR_nil x
    constructor
    · rintro ⟨(g | g) | g, g2⟩
      · exact absurd g hx
      · exact ⟨.inr (by omega), g2⟩
      · exact ⟨.inl g, g2⟩
    · rintro ⟨g | g, g2⟩
      · exact ⟨.inr g, g2⟩
      · exact ⟨.inl (.inr (by omega)), g2⟩
theorem ackA_in {σ : Snd} (h : Pl σ) (off : Nat) (n : Int) (x : Nat) : inR x (ackA σ off n) ↔ inR x σ.acked ∨ (off ≤ x ∧ x < off + n.toNat ∧ x < σ.top) := by
  have hmx : mx = 4611686018427387903 := rfl
  have hok := h.ok
  have h1 := hok.top
  have h2 := hok.len
  unfold ackA spanR
  by_cases h0 : n < 1 ∨ σ.top ≤ off
  · rw [if_pos h0, if_neg (by decide)]
    exact ⟨.inl, fun g => g.elim id (fun g => by omega)⟩
  · rw [if_neg h0, if_pos rfl, spOp_mem hok.acked _ _ _ (by show off + min n.toNat (σ.top - off) - 1 ≤ mx; omega)]
    show _ ∨ (off ≤ x ∧ x ≤ off + min n.toNat (σ.top - off) - 1) ↔ _
    constructor
    · rintro (g | g)
      · exact .inl g
      · exact .inr (by omega)
    · rintro (g | g)
      · exact .inl g
      · exact .inr (by omega)
theorem ackL_in {σ : Snd} (h : Pl σ) (off : Nat) (n : Int) (x : Nat) : inR x (ackL σ off n) ↔ inR x σ.lost ∧ ¬ (off ≤ x ∧ x < off + n.toNat ∧ x < σ.top) := by
  have hA := ackA_in h off n x
  have hok := (ack_ok h.ok off n).acked
  unfold ackL
  by_cases h0 : (spanR σ off n).2.2 = true
  · rw [if_pos h0, wo_mem x _ _ 0 0 h.ok.lost hok, hA]
    constructor
    · exact fun g => ⟨g.1, fun g2 => g.2 (.inr g2)⟩
    · exact fun g => ⟨g.1, fun g2 => g2.elim (h.dis x g.1) g.2⟩
  · rw [if_neg h0]
    have : ¬ (off ≤ x ∧ x < off + n.toNat ∧ x < σ.top) := by
      unfold spanR at h0
      by_cases h3 : n < 1 ∨ σ.top ≤ off
      · omega
      · rw [if_neg h3] at h0; exact absurd rfl h0
    exact ⟨fun g => ⟨g, this⟩, fun g => g.1⟩
theorem lostS_f (σ : Snd) (off : Nat) (n : Int) (fin : Bool) : lostS σ off n fin = { σ with lost := lostL σ off n, fin := if fin = true ∧ σ.fin = 1 then 2 else σ.fin } := by
  unfold lostS
  cases fin with
  | false => rfl
  | true =>
    by_cases h : σ.fin = 1
    · rw [if_pos (by rw [h]; rfl), if_pos ⟨rfl, h⟩]
    · have : ((σ.fin : Int) == 1) = false := by simp; omega
      rw [this, if_neg (by decide), if_neg (fun g => h g.2)]
theorem ackS_f (σ : Snd) (off : Nat) (n : Int) (fin : Bool) : ackS σ off n fin = { σ with lost := ackL σ off n, acked := ackA σ off n, fin := if fin = true ∧ 0 < σ.fin then 3 else σ.fin } := by
  unfold ackS
  cases fin with
  | false => rfl
  | true =>
    by_cases h : σ.fin = 0
    · rw [h, if_neg (by decide), if_neg (by omega)]
    · have : ((σ.fin : Int) != 0) = true := by simp; omega
      rw [this, if_pos (by decide), if_pos ⟨rfl, by omega⟩]
theorem lost_pl {σ : Snd} (h : Pl σ) (off : Nat) (n : Int) (fin : Bool) : Pl (lostS σ off n fin) := by
  have ho := lostL_ok h.ok off n
  have hf := h.ok.fin
  rw [lostS_f]
  refine ⟨⟨ho.lost, ho.acked, ho.lt, ho.at', ho.top, ho.tm, ho.max, ho.len, ?_⟩, fun x hx => ((lostL_in h off n x).1 hx).2⟩
  show (if fin = true ∧ σ.fin = 1 then 2 else σ.fin) ≤ 3
  split <;> omega
theorem ack_pl {σ : Snd} (h : Pl σ) (off : Nat) (n : Int) (fin : Bool) : Pl (ackS σ off n fin) := by
  have ho := ack_ok h.ok off n
  have hf := h.ok.fin
  rw [ackS_f]
  refine ⟨⟨ho.lost, ho.acked, ho.lt, ho.at', ho.top, ho.tm, ho.max, ho.len, ?_⟩, fun x hx hx2 => ?_⟩
  · show (if fin = true ∧ 0 < σ.fin then 3 else σ.fin) ≤ 3
    split <;> omega
  · have g1 := (ackL_in h off n x).1 hx
    have g2 := (ackA_in h off n x).1 hx2
    exact g2.elim (h.dis x g1.1) g1.2

/-- What mark makes of a byte's state. -/
def mk1 (off : Nat) (n : Int) (lost : Bool) (x i : Nat) : Nat := if i < off ∨ n.toNat ≤ i - off ∨ x = 0 then x else if lost then (if x = 3 then 3 else 2) else 3
/-- What it makes of the first k. -/
def mkL (s : List Nat) (off : Nat) (n : Int) (lost : Bool) (k : Nat) : List Nat := s.mapIdx fun i x => if i < k then mk1 off n lost x i else x
def markF (f : Nat) (fin lost : Bool) : Nat := if fin = true ∧ 0 < f then (if lost then (if f = 3 then 3 else 2) else 3) else f
def markH (η : Hlf) (off : Nat) (n : Int) (fin lost : Bool) : Hlf := { η with s := mkL η.s off n lost η.s.length, finS := markF η.finS fin lost }
theorem mkL_len (s : List Nat) (off : Nat) (n : Int) (lost : Bool) (k : Nat) : (mkL s off n lost k).length = s.length := by simp [mkL]
theorem mkL_get (s : List Nat) (off : Nat) (n : Int) (lost : Bool) (k i : Nat) : (mkL s off n lost k)[i]? = s[i]?.map fun x => if i < k then mk1 off n lost x i else x := by simp [mkL]
theorem mkL_zero (s : List Nat) (off : Nat) (n : Int) (lost : Bool) : mkL s off n lost 0 = s := by
  apply List.ext_getElem?
  intro i
  rw [mkL_get]
  cases s[i]? <;> simp
theorem mkL_at {s : List Nat} {k x : Nat} (off : Nat) (n : Int) (lost : Bool) (h : s[k]? = some x) : (mkL s off n lost k)[k]? = some x := by
  rw [mkL_get, h]
  simp
theorem mkL_step {s : List Nat} {k x : Nat} (off : Nat) (n : Int) (lost : Bool) (h : s[k]? = some x) : mkL s off n lost (k + 1) = (mkL s off n lost k).set k (mk1 off n lost x k) := by
  apply List.ext_getElem?
  intro i
  rw [List.getElem?_set, mkL_get, mkL_get, mkL_len]
  by_cases hi : k = i
  · subst hi
    rw [if_pos rfl, h]
    have := (List.getElem?_eq_some_iff.1 h).1
    simp [this]
  · rw [if_neg hi]
    cases s[i]? with
    | none => rfl
    | some y =>
      simp only [Option.map_some]
      by_cases h1 : i < k
      · rw [if_pos h1, if_pos (by omega)]
      · rw [if_neg h1, if_neg (by omega)]
theorem set_self {l : List Nat} {k x : Nat} (h : l[k]? = some x) : l.set k x = l := by
  apply List.ext_getElem?
  intro i
  rw [List.getElem?_set]
  by_cases hi : k = i
  · subst hi
    have := (List.getElem?_eq_some_iff.1 h).1
    rw [if_pos rfl, if_pos this, h]
  · rw [if_neg hi]
theorem mkL_same {s : List Nat} {k x : Nat} (off : Nat) (n : Int) (lost : Bool) (h : s[k]? = some x) (he : mk1 off n lost x k = x) : mkL s off n lost (k + 1) = mkL s off n lost k := by
  rw [mkL_step off n lost h, he]
  exact set_self (mkL_at off n lost h)

theorem mark_lost {σ : Snd} (h : Pl σ) (off : Nat) (n : Int) (fin : Bool) : markH (halfOf σ) off n fin true = halfOf (lostS σ off n fin) := by
  have hp := lost_pl h off n fin
  have hfb := h.ok.fin
  have hto := h.ok.top
  rw [lostS_f] at hp ⊢
  refine halfOf_ext rfl rfl (by show (mkL (stL σ) off n true _).length = _; rw [mkL_len, stL_len]) (fun i hi => ?_) rfl ?_ rfl ?_
  · show (mkL (stL σ) off n true (stL σ).length)[i]? = _
    have hi2 : i < σ.b.length := hi
    rw [mkL_get, stL_get, if_pos hi2, Option.map_some, if_pos (by rw [stL_len]; exact hi2)]
    congr 1
    symm
    have k := code_lt σ i
    have k0 := code0 σ i
    have k2 := code2 h i
    have k3 := code3 h i
    have hl := lostL_in h off n i
    refine code_ext hp h ?_ ?_ ?_ ?_
    · unfold mk1; split <;> (try split) <;> (try split) <;> omega
    · show _ ↔ σ.top ≤ i
      rw [← k0]
      unfold mk1
      constructor
      · intro g
        split at g
        · exact g
        · next h1 => rw [if_pos rfl] at g; split at g <;> omega
      · intro g; rw [if_pos (.inr (.inr g)), g]
    · show _ ↔ inR i (lostL σ off n)
      rw [hl, ← k2, ← k3]
      unfold mk1
      split
      · next h1 => omega
      · next h1 =>
        rw [if_pos rfl]
        split <;> omega
    · show _ ↔ inR i σ.acked
      rw [← k3]
      unfold mk1
      split
      · rfl
      · rw [if_pos rfl]
        split <;> omega
  · show markF σ.fin fin true = if fin = true ∧ σ.fin = 1 then 2 else σ.fin
    unfold markF
    rw [if_pos rfl]
    cases fin with
    | false => simp
    | true =>
      simp only [true_and]
      split <;> (try split) <;> (try split) <;> omega
  · show decide (0 < σ.top ∨ 0 < σ.fin) = decide (0 < σ.top ∨ 0 < (if fin = true ∧ σ.fin = 1 then 2 else σ.fin))
    congr 1
    split
    · next h => have := h.2; simp; omega
    · rfl
theorem mark_ack {σ : Snd} (h : Pl σ) (off : Nat) (n : Int) (fin : Bool) : markH (halfOf σ) off n fin false = halfOf (ackS σ off n fin) := by
  have hp := ack_pl h off n fin
  have hfb := h.ok.fin
  have hto := h.ok.top
  rw [ackS_f] at hp ⊢
  refine halfOf_ext rfl rfl (by show (mkL (stL σ) off n false _).length = _; rw [mkL_len, stL_len]) (fun i hi => ?_) rfl ?_ rfl ?_
  · show (mkL (stL σ) off n false (stL σ).length)[i]? = _
    have hi2 : i < σ.b.length := hi
    rw [mkL_get, stL_get, if_pos hi2, Option.map_some, if_pos (by rw [stL_len]; exact hi2)]
    congr 1
    symm
    have k := code_lt σ i
    have k0 := code0 σ i
    have k2 := code2 h i
    have k3 := code3 h i
    have hl := ackL_in h off n i
    have ha := ackA_in h off n i
    refine code_ext hp h ?_ ?_ ?_ ?_
    · unfold mk1; split <;> (try split) <;> (try split) <;> omega
    · show _ ↔ σ.top ≤ i
      rw [← k0]
      unfold mk1
      constructor
      · intro g
        split at g
        · exact g
        · next h1 => rw [if_neg (by decide)] at g; omega
      · intro g; rw [if_pos (.inr (.inr g)), g]
    · show _ ↔ inR i (ackL σ off n)
      rw [hl, ← k2]
      unfold mk1
      split
      · next h1 => omega
      · next h1 =>
        rw [if_neg (by decide)]
        omega
    · show _ ↔ inR i (ackA σ off n)
      rw [ha, ← k3]
      unfold mk1
      split
      · next h1 => omega
      · next h1 =>
        rw [if_neg (by decide)]
        omega
  · show markF σ.fin fin false = if fin = true ∧ 0 < σ.fin then 3 else σ.fin
    unfold markF
    simp only [Bool.false_eq_true, if_false]
  · show decide (0 < σ.top ∨ 0 < σ.fin) = decide (0 < σ.top ∨ 0 < (if fin = true ∧ 0 < σ.fin then 3 else σ.fin))
    congr 1
    split
    · next h => have := h.2; simp; omega
    · rfl

/-- All is acknowledged. -/
def allH (η : Hlf) : Bool := ((η.finS : Int) == 3) && η.s.all fun x => ((x : Int) == 3)
theorem cnt_full {A : List Rng} {N : Nat} (hV : V A 0) (hN : ∀ x ∈ A, x.2 < N) (hc : cnt A = N) : ∀ i, i < N → inR i A := by
  have aux : ∀ (A : List Rng) (a N : Nat), V A 0 → (∀ x ∈ A, a ≤ x.1 ∧ x.2 < N) → a ≤ N → (cnt A + a ≤ N ∧ (cnt A + a = N → ∀ i, a ≤ i → i < N → inR i A)) := by
    intro A
    induction A with
    | nil =>
      intro a N _ _ h
      exact ⟨by simp [cnt]; omega, fun e i h1 h2 => by simp [cnt] at e; omega⟩
    | cons x L ih =>
      intro a N hV hN ha
      have hx := hV.2 x (by simp)
      have hxN := hN x (by simp)
      have hhd := hV.head
      have e : cnt (x :: L) = x.2 - x.1 + 1 + cnt L := by simp [cnt]
      obtain ⟨k1, k2⟩ := ih (x.2 + 1) N hV.tail (fun y hy => ⟨by have := hhd y hy; omega, (hN y (by simp [hy])).2⟩) (by omega)
      refine ⟨by omega, fun e2 i g1 g2 => ?_⟩
      by_cases hi : i ≤ x.2
      · exact ⟨x, by simp, by omega, hi⟩
      · obtain ⟨y, hy, hy2⟩ := k2 (by omega) i (by omega) g2
        exact ⟨y, by simp [hy], hy2⟩
  intro i hi
  exact (aux A 0 N hV (fun x hx => ⟨Nat.zero_le _, hN x hx⟩) (Nat.zero_le _)).2 (by omega) i (Nat.zero_le _) hi
theorem all_eq {σ : Snd} (h : Pl σ) : allH (halfOf σ) = doneB σ := by
  have hok := h.ok
  unfold allH doneB
  congr 1
  show (stL σ).all _ = _
  have hmx : mx = 4611686018427387903 := rfl
  have h1 := hok.top
  have h2 := hok.len
  have key : (∀ i, i < σ.b.length → inR i σ.acked) ↔ cnt σ.acked = σ.b.length := by
    constructor
    · intro hall
      by_cases h0 : σ.b.length = 0
      · cases ha : σ.acked with
        | nil => rw [h0]; rfl
        | cons y L =>
          have := hok.at' y (by rw [ha]; simp)
          omega
      · have hV : V [(0, σ.b.length - 1)] 0 := ⟨List.pairwise_singleton _ _, fun y hy => by simp at hy; subst hy; exact ⟨Nat.zero_le _, Nat.zero_le _, by show σ.b.length - 1 ≤ mx; omega⟩⟩
        have := V.ext hok.acked hV (fun x => by
          constructor
          · rintro ⟨y, hy, _, g2⟩
            have := hok.at' y hy
            exact ⟨(0, σ.b.length - 1), by simp, Nat.zero_le _, by show x ≤ σ.b.length - 1; omega⟩
          · rintro ⟨y, hy, g1, g2⟩
            simp at hy
            subst hy
            exact hall x (by show x < σ.b.length; simp at g2; omega))
        rw [this]
        exact cnt_all _ (by omega)
    · intro hc
      exact cnt_full hok.acked (fun x hx => by have := hok.at' x hx; omega) hc
  rw [Bool.eq_iff_iff, List.all_eq_true]
  rw [show (((cnt σ.acked : Int) == (σ.b.length : Int)) = true) ↔ cnt σ.acked = σ.b.length from by simp; omega, ← key]
  constructor
  · intro g i hi
    have := g (code σ i) (by unfold stL; exact List.mem_map.2 ⟨i, List.mem_range.2 hi, rfl⟩)
    exact (code3 h i).1 (by have := beq_iff_eq.1 this; omega)
  · intro g x hx
    unfold stL at hx
    obtain ⟨i, hi, rfl⟩ := List.mem_map.1 hx
    rw [(code3 h i).2 (g i (List.mem_range.1 hi))]
    rfl
def stateH (η : Hlf) : Value := if η.gone then vReset else if !η.began then vReady else if allH η then vRecvd else if ((0 : Int) < (η.finS : Int)) then vSent else vSend
theorem state_eq {σ : Snd} (h : Pl σ) : stateH (halfOf σ) = stateV σ := by
  unfold stateH stateV
  rw [all_eq h]
  show (if σ.reset = true then _ else if (!decide (0 < σ.top ∨ 0 < σ.fin)) = true then _ else if _ then _ else if (0 : Int) < (σ.fin : Int) then _ else _) = _
  split
  · rfl
  · by_cases h0 : 0 < σ.top ∨ 0 < σ.fin
    · rw [decide_eq_true h0, if_neg (by decide)]
      split
      · rfl
      · by_cases h1 : 0 < σ.fin
        · rw [if_pos (by omega), if_pos (by simp; omega)]
        · rw [if_neg (by omega), if_neg (by simp; omega), if_neg (by simp; omega)]
    · have hd : doneB σ = false := by
        unfold doneB
        have : σ.fin = 0 := by omega
        rw [this]
        rfl
      rw [decide_eq_false h0, if_pos (by decide), hd, if_neg (by decide), if_neg (by simp; omega), if_pos (by simp; omega)]
/-- Reset. -/
theorem reset_pl {σ : Snd} (h : Pl σ) : Pl { σ with reset := true } := ⟨⟨h.ok.lost, h.ok.acked, h.ok.lt, h.ok.at', h.ok.top, h.ok.tm, h.ok.max, h.ok.len, h.ok.fin⟩, h.dis⟩
theorem resetH_eq (σ : Snd) : { halfOf σ with gone := true } = halfOf { σ with reset := true } := rfl
end Go.Proofs.Ytmidlielcioinaa
