/- What the document's Next looks for, in plain Lean, and that it is what the program's hands out. Conditions: the half is in order. -/
import Derived.Test.YtmidlielcioinaaHA
namespace Go.Proofs.Ytmidlielcioinaa
open Go.RowKit

/-- Byte j is in state k, and may be sent. -/
def Mt (η : Hlf) (k j : Nat) : Prop := η.s[j]? = some k ∧ j < η.max
structure Plan (η : Hlf) (n : Int) (A2 A0 A K E : Nat) (φ : Bool) : Prop where
  le2 : A2 ≤ η.b.length
  no2 : ∀ j, j < A2 → ¬ Mt η 2 j
  yes2 : A2 < η.b.length → Mt η 2 A2
  le0 : A0 ≤ η.b.length
  no0 : ∀ j, j < A0 → ¬ Mt η 0 j
  yes0 : A0 < η.b.length → Mt η 0 A0
  pick : (A2 < η.b.length ∧ A = A2 ∧ K = 2) ∨ (A2 = η.b.length ∧ A = A0 ∧ K = 0)
  lo : A ≤ E
  hi : E ≤ η.b.length
  yesE : ∀ j, A ≤ j → j < E → Mt η K j ∧ (j : Int) - (A : Int) < n
  noE : E = η.b.length ∨ ¬ ((E : Int) - (A : Int) < n) ∨ ¬ Mt η K E
  fin : φ = ((η.fin && (((E : Int) == (η.b.length : Int)) && (((η.finS : Int) == 0) || ((η.finS : Int) == 2)))) && (if E = A then η.s.all (fun x => ((x : Int) != 0)) else true))
/-- The bytes from A to E are sent. -/
def setR (s : List Nat) (A E : Nat) : List Nat := s.mapIdx fun i x => if A ≤ i ∧ i < E then 1 else x
def sentH (η : Hlf) (A E : Nat) (φ : Bool) : Hlf := { η with s := setR η.s A E, finS := if φ then 1 else η.finS, began := true }
theorem setR_len (s : List Nat) (A E : Nat) : (setR s A E).length = s.length := by simp [setR]
theorem setR_get (s : List Nat) (A E i : Nat) : (setR s A E)[i]? = s[i]?.map fun x => if A ≤ i ∧ i < E then 1 else x := by simp [setR]
theorem setR_zero (s : List Nat) (A : Nat) : setR s A A = s := by
  apply List.ext_getElem?
  intro i
  rw [setR_get]
  cases s[i]? with
  | none => rfl
  | some x => simp only [Option.map_some]; rw [if_neg (by omega)]
theorem setR_succ (s : List Nat) (A k : Nat) (h : A ≤ k) : setR s A (k + 1) = (setR s A k).set k 1 := by
  apply List.ext_getElem?
  intro i
  rw [List.getElem?_set, setR_get, setR_get, setR_len]
  by_cases hi : k = i
  · subst hi
    rw [if_pos rfl]
    by_cases hk : k < s.length
    · rw [if_pos hk, List.getElem?_eq_getElem hk]
      simp [h]
    · rw [if_neg hk, List.getElem?_eq_none (by omega)]
      rfl
  · rw [if_neg hi]
    cases s[i]? with
    | none => rfl
    | some x =>
      simp only [Option.map_some]
      by_cases h1 : A ≤ i ∧ i < k
      · rw [if_pos h1, if_pos ⟨h1.1, by omega⟩]
      · rw [if_neg h1, if_neg (fun g => h1 ⟨g.1, by omega⟩)]
theorem mt_half {σ : Snd} (k j : Nat) : Mt (halfOf σ) k j ↔ (j < σ.b.length ∧ code σ j = k) ∧ j < σ.max := by
  unfold Mt
  show (stL σ)[j]? = some k ∧ j < σ.max ↔ _
  rw [stL_get]
  split
  · next h => simp [h]
  · next h => simp [h]
theorem Pl.max_le {σ : Snd} (h : Pl σ) : σ.top ≤ σ.b.length ∧ σ.top ≤ σ.max := ⟨h.ok.top, h.ok.tm⟩
/-- The half behind a chunk. -/
theorem sentH_eq {σ τ : Snd} (hσ : Pl σ) (hτ : Pl τ) {A E : Nat} {φ : Bool} (e1 : τ.b = σ.b) (e2 : τ.ended = σ.ended) (e3 : τ.reset = σ.reset) (e4 : τ.max = σ.max) (e5 : τ.acked = σ.acked) (e6 : τ.fin = if φ then 1 else σ.fin)
    (h1 : ∀ x, inR x τ.lost ↔ inR x σ.lost ∧ ¬ (A ≤ x ∧ x < E)) (h2 : ∀ x, x < τ.top ↔ x < σ.top ∨ (A ≤ x ∧ x < E)) (h3 : ∀ x, A ≤ x → x < E → ¬ inR x σ.acked) (hb : 0 < τ.top ∨ 0 < τ.fin) : sentH (halfOf σ) A E φ = halfOf τ := by
  refine halfOf_ext e4.symm e1.symm (by show (setR (stL σ) A E).length = _; rw [setR_len, stL_len, e1]) (fun i hi => ?_) e2.symm e6.symm e3.symm ?_
  · show (setR (stL σ) A E)[i]? = _
    rw [e1] at hi
    rw [setR_get, stL_get, if_pos hi, Option.map_some]
    congr 1
    symm
    have k := code_lt σ i
    have k0 := code0 σ i
    have k2 := code2 hσ i
    have k3 := code3 hσ i
    have g1 := h1 i
    have g2 := h2 i
    have g3 := h3 i
    have g4 := @Pl.lost_top σ hσ i
    refine code_ext hτ hσ ?_ ?_ ?_ ?_
    · split <;> omega
    · split
      · omega
      · omega
    · rw [g1, ← k2]
      split
      · omega
      · omega
    · rw [e5, ← k3]
      split
      · next h => exact ⟨fun e => (by cases e), fun e => absurd (k3.1 e) (g3 h.1 h.2)⟩
      · rfl
  · show true = decide (0 < τ.top ∨ 0 < τ.fin)
    rw [decide_eq_true hb]
theorem all_ne {σ : Snd} : (stL σ).all (fun x => ((x : Int) != 0)) = decide (σ.b.length ≤ σ.top) := by
  rw [Bool.eq_iff_iff, List.all_eq_true, decide_eq_true_iff]
  constructor
  · intro h
    apply Classical.byContradiction
    intro h0
    have := h (code σ σ.top) (by unfold stL; exact List.mem_map.2 ⟨σ.top, List.mem_range.2 (by omega), rfl⟩)
    rw [(code0 σ σ.top).2 (Nat.le_refl _)] at this
    cases this
  · intro h x hx
    obtain ⟨i, hi, rfl⟩ := List.mem_map.1 (show x ∈ (List.range σ.b.length).map (code σ) from hx)
    have hi := List.mem_range.1 hi
    have := code0 σ i
    have : code σ i ≠ 0 := by omega
    simp
    omega

theorem chunkS_fin {σ ρ : Snd} {a m : Nat} (e : ρ.fin = σ.fin) : (chunkS ρ a m).fin = if chunkF ρ a m then 1 else σ.fin := by
  unfold chunkS
  split
  · rfl
  · exact e
theorem chunkS_same (ρ : Snd) (a m : Nat) : (chunkS ρ a m).b = ρ.b ∧ (chunkS ρ a m).ended = ρ.ended ∧ (chunkS ρ a m).reset = ρ.reset ∧ (chunkS ρ a m).max = ρ.max ∧ (chunkS ρ a m).acked = ρ.acked ∧ (chunkS ρ a m).lost = ρ.lost ∧ (chunkS ρ a m).top = ρ.top := by
  unfold chunkS
  split <;> exact ⟨rfl, rfl, rfl, rfl, rfl, rfl, rfl⟩
theorem chunkS_ok {ρ : Snd} (h : ρ.Ok) (a m : Nat) : (chunkS ρ a m).Ok := by
  unfold chunkS
  split
  · exact ⟨h.lost, h.acked, h.lt, h.at', h.top, h.tm, h.max, h.len, by show 1 ≤ 3; decide⟩
  · exact h

/-- What Next does. -/
theorem next_plan {σ : Snd} (h : Pl σ) (hr : σ.reset = false) (n : Int) : ∃ A2 A0 A K E φ, Plan (halfOf σ) n A2 A0 A K E φ ∧
    ((E = A ∧ φ = false ∧ nextS σ n.toNat = ((0, [], false, false), σ)) ∨ (¬ (E = A ∧ φ = false) ∧ ∃ τ, nextS σ n.toNat = ((A, (σ.b.drop A).take (E - A), φ, true), τ) ∧ Pl τ ∧ sentH (halfOf σ) A E φ = halfOf τ)) := by
  have hok := h.ok
  have hto := hok.top
  have htm := hok.tm
  obtain ⟨A0, hA0⟩ : ∃ A0, A0 = if σ.top < min σ.b.length σ.max then σ.top else σ.b.length := ⟨_, rfl⟩
  have le0 : A0 ≤ σ.b.length := by rw [hA0]; split <;> omega
  have no0 : ∀ j, j < A0 → ¬ Mt (halfOf σ) 0 j := fun j hj hm => by
    rw [mt_half, code0] at hm
    rw [hA0] at hj
    split at hj <;> omega
  have yes0 : A0 < σ.b.length → Mt (halfOf σ) 0 A0 := fun hj => by
    rw [mt_half, code0]
    rw [hA0] at hj ⊢
    split at hj
    · next h1 => rw [if_pos h1]; omega
    · omega
  have mt2 : ∀ j, Mt (halfOf σ) 2 j ↔ inR j σ.lost := fun j => by
    rw [mt_half, code2 h]
    constructor
    · exact fun g => g.1.2
    · intro g
      have := h.lost_top g
      exact ⟨⟨by omega, g⟩, by omega⟩
  cases hl : σ.lost with
  | cons r rest =>
    have hV := hok.lost
    rw [hl] at hV
    have h1 := hV.2 r (by simp)
    have hhd := hV.head
    have hlt := hok.lt r (by rw [hl]; simp)
    have in1 : inR r.1 σ.lost := by rw [hl]; exact ⟨r, by simp, Nat.le_refl _, h1.2.1⟩
    have no2 : ∀ j, j < r.1 → ¬ Mt (halfOf σ) 2 j := fun j hj hm => by
      rw [mt2, hl, inR_cons] at hm
      rcases hm with g | ⟨y, hy, g1, g2⟩
      · omega
      · have := hhd y hy; omega
    by_cases hn : 0 < n.toNat
    · obtain ⟨m, hm⟩ : ∃ m, m = min n.toNat (r.2 - r.1 + 1) := ⟨_, rfl⟩
      have hpo := pop_ok hok hl m
      have hns : nextS σ n.toNat = ((r.1, bytesAt σ r.1 m, chunkF { σ with lost := popL r rest m } r.1 m, true), chunkS { σ with lost := popL r rest m } r.1 m) := by
        unfold nextS
        refine (if_neg (by rw [hr]; decide)).trans ?_
        rw [hl]
        dsimp only
        rw [if_pos hn, ← hm]
      obtain ⟨s1, s2, s3, s4, s5, s6, s7⟩ := chunkS_same { σ with lost := popL r rest m } r.1 m
      have hmem : ∀ x, inR x (popL r rest m) ↔ inR x σ.lost ∧ ¬ (r.1 ≤ x ∧ x < r.1 + m) := fun x => by rw [hl]; exact popL_mem hV m (by omega) (by omega) x
      have hpl : Pl (chunkS { σ with lost := popL r rest m } r.1 m) := ⟨chunkS_ok hpo _ _, fun x hx => by
        rw [s6] at hx
        rw [s5]
        exact h.dis x ((hmem x).1 hx).1⟩
      refine ⟨r.1, A0, r.1, 2, r.1 + m, chunkF { σ with lost := popL r rest m } r.1 m, ⟨by show r.1 ≤ σ.b.length; omega, no2, fun _ => (mt2 _).2 in1, le0, no0, yes0, .inl ⟨by show r.1 < σ.b.length; omega, rfl, rfl⟩, by omega, by show r.1 + m ≤ σ.b.length; omega, fun j g1 g2 => ⟨(mt2 j).2 (by rw [hl]; exact ⟨r, by simp, g1, by omega⟩), by omega⟩, ?_, ?_⟩, .inr ⟨by omega, _, hns.trans (by rw [show r.1 + m - r.1 = m from by omega]; rfl), hpl, ?_⟩⟩
      · rw [mt2, hl, inR_cons]
        by_cases hmn : m = n.toNat
        · exact .inr (.inl (by omega))
        · refine .inr (.inr fun g => ?_)
          rcases g with g | ⟨y, hy, g1, g2⟩
          · omega
          · have := hhd y hy; omega
      · rw [if_neg (by omega), Bool.and_true]
        unfold chunkF
        rw [show ((r.1 + m : Nat) : Int) = (r.1 : Int) + (m : Int) from by omega]
        rfl
      · refine sentH_eq h hpl s1 s2 s3 s4 s5 (chunkS_fin rfl) (fun x => by rw [s6]; exact hmem x) (fun x => ?_) (fun x g1 g2 => h.dis x (by rw [hl]; exact ⟨r, by simp, g1, by omega⟩)) (.inl ?_)
        · rw [s7]
          show x < σ.top ↔ _
          omega
        · rw [s7]
          show 0 < σ.top
          omega
    · refine ⟨r.1, A0, r.1, 2, r.1, false, ⟨by show r.1 ≤ σ.b.length; omega, no2, fun _ => (mt2 _).2 in1, le0, no0, yes0, .inl ⟨by show r.1 < σ.b.length; omega, rfl, rfl⟩, by omega, by show r.1 ≤ σ.b.length; omega, fun j g1 g2 => by omega, .inr (.inl (by omega)), ?_⟩, .inl ⟨rfl, rfl, ?_⟩⟩
      · rw [show (((r.1 : Int) == ((halfOf σ).b.length : Int))) = false from by
          show ((r.1 : Int) == (σ.b.length : Int)) = false
          simp; omega]
        simp
      · unfold nextS
        refine (if_neg (by rw [hr]; decide)).trans ?_
        rw [hl]
        dsimp only
        rw [if_neg hn]
  | nil =>
    have no2 : ∀ j, ¬ Mt (halfOf σ) 2 j := fun j hm => by
      rw [mt2, hl] at hm
      exact inR_nil j hm
    obtain ⟨m, hm⟩ : ∃ m, m = min n.toNat (min σ.b.length σ.max - σ.top) := ⟨_, rfl⟩
    by_cases hm1 : 0 < m
    · have hA : A0 = σ.top := by rw [hA0, if_pos (by omega)]
      have hpo := top_ok hok m (by omega)
      have hns : nextS σ n.toNat = ((σ.top, bytesAt σ σ.top m, chunkF { σ with top := σ.top + m } σ.top m, true), chunkS { σ with top := σ.top + m } σ.top m) := by
        unfold nextS
        refine (if_neg (by rw [hr]; decide)).trans ?_
        rw [hl]
        dsimp only
        rw [← hm, if_pos hm1]
      obtain ⟨s1, s2, s3, s4, s5, s6, s7⟩ := chunkS_same { σ with top := σ.top + m } σ.top m
      have hpl : Pl (chunkS { σ with top := σ.top + m } σ.top m) := ⟨chunkS_ok hpo _ _, fun x hx => by
        rw [s6] at hx
        rw [s5]
        exact h.dis x hx⟩
      refine ⟨σ.b.length, A0, A0, 0, A0 + m, chunkF { σ with top := σ.top + m } σ.top m, ⟨Nat.le_refl _, fun j _ => no2 j, fun g => absurd g (Nat.lt_irrefl _), le0, no0, yes0, .inr ⟨rfl, rfl, rfl⟩, by omega, by show A0 + m ≤ σ.b.length; omega, fun j g1 g2 => ⟨by rw [mt_half, code0]; omega, by omega⟩, ?_, ?_⟩, .inr ⟨by omega, _, hns.trans (by rw [show A0 + m - A0 = m from by omega, hA]; rfl), hpl, ?_⟩⟩
      · rw [mt_half]
        by_cases hmn : m = n.toNat
        · exact .inr (.inl (by omega))
        · exact .inr (.inr fun g => by omega)
      · rw [if_neg (by omega), Bool.and_true]
        unfold chunkF
        rw [hA, show ((σ.top + m : Nat) : Int) = (σ.top : Int) + (m : Int) from by omega]
        rfl
      · rw [hA]
        refine sentH_eq h hpl s1 s2 s3 s4 s5 (chunkS_fin rfl) (fun x => ?_) (fun x => ?_) (fun x g1 g2 hx => by have := h.acked_top hx; omega) (.inl ?_)
        · rw [s6]
          show inR x σ.lost ↔ _
          rw [hl]
          simp [inR]
        · rw [s7]
          show x < σ.top + m ↔ _
          omega
        · rw [s7]
          show 0 < σ.top + m
          omega
    · have hm0 : m = 0 := by omega
      by_cases hlt : σ.top < min σ.b.length σ.max
      · have hA : A0 = σ.top := by rw [hA0, if_pos hlt]
        refine ⟨σ.b.length, A0, A0, 0, A0, false, ⟨Nat.le_refl _, fun j _ => no2 j, fun g => absurd g (Nat.lt_irrefl _), le0, no0, yes0, .inr ⟨rfl, rfl, rfl⟩, by omega, le0, fun j g1 g2 => by omega, .inr (.inl (by omega)), ?_⟩, .inl ⟨rfl, rfl, ?_⟩⟩
        · rw [show (((A0 : Int) == ((halfOf σ).b.length : Int))) = false from by
            show ((A0 : Int) == (σ.b.length : Int)) = false
            simp; omega]
          simp
        · have hc : chunkF σ σ.top 0 = false := by
            unfold chunkF
            rw [show (((σ.top : Int) + ((0 : Nat) : Int) == (σ.b.length : Int))) = false from by simp; omega]
            simp
          unfold nextS
          refine (if_neg (by rw [hr]; decide)).trans ?_
          rw [hl]
          dsimp only
          rw [← hm, if_neg hm1, hc]
          simp
      · have hA : A0 = σ.b.length := by rw [hA0, if_neg hlt]
        have hns : nextS σ n.toNat = if chunkF σ σ.top 0 then ((σ.top, [], true, true), chunkS σ σ.top 0) else ((0, [], false, false), σ) := by
          unfold nextS
          refine (if_neg (by rw [hr]; decide)).trans ?_
          rw [hl]
          dsimp only
          rw [← hm, if_neg hm1]
        have hφ : chunkF σ σ.top 0 = ((σ.ended && (((σ.b.length : Int) == (σ.b.length : Int)) && (((σ.fin : Int) == 0) || ((σ.fin : Int) == 2)))) && (stL σ).all (fun x => ((x : Int) != 0))) := by
          rw [all_ne]
          unfold chunkF
          by_cases ht : σ.top = σ.b.length
          · rw [ht, decide_eq_true (Nat.le_refl _)]; simp
          · rw [show (((σ.top : Int) + ((0 : Nat) : Int) == (σ.b.length : Int))) = false from by simp; omega, decide_eq_false (by omega)]
            simp
        have hpl : Pl (chunkS σ σ.top 0) := by
          obtain ⟨s1, s2, s3, s4, s5, s6, s7⟩ := chunkS_same σ σ.top 0
          exact ⟨chunkS_ok hok _ _, fun x hx => by rw [s6] at hx; rw [s5]; exact h.dis x hx⟩
        refine ⟨σ.b.length, A0, A0, 0, A0, chunkF σ σ.top 0, ⟨Nat.le_refl _, fun j _ => no2 j, fun g => absurd g (Nat.lt_irrefl _), le0, no0, yes0, .inr ⟨rfl, rfl, rfl⟩, by omega, le0, fun j g1 g2 => by omega, .inl hA, ?_⟩, ?_⟩
        · rw [if_pos rfl, hA]
          exact hφ
        · cases hc : chunkF σ σ.top 0 with
          | false => exact .inl ⟨rfl, rfl, by rw [hns, hc]; simp⟩
          | true =>
            have htop : σ.top = σ.b.length := by
              unfold chunkF at hc
              simp at hc
              omega
            refine .inr ⟨by simp, chunkS σ σ.top 0, by rw [hns, hc, Nat.sub_self, hA, htop]; simp, hpl, ?_⟩
            obtain ⟨s1, s2, s3, s4, s5, s6, s7⟩ := chunkS_same σ σ.top 0
            have hf : (chunkS σ σ.top 0).fin = 1 := by rw [chunkS_fin (σ := σ) rfl, hc]; rfl
            refine sentH_eq h hpl s1 s2 s3 s4 s5 (by rw [hf]; rfl) (fun x => by rw [s6]; constructor; exact fun g => ⟨g, by omega⟩; exact fun g => g.1) (fun x => by rw [s7]; omega) (fun x _ _ => by omega) (.inr (by omega))
end Go.Proofs.Ytmidlielcioinaa
