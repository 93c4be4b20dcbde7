/- Ranges without those of a set, in plain Lean. Conditions: none of their own. -/
import Derived.Test.YtmidlielcioinaaRgP
namespace Go.Proofs.Ytmidlielcioinaa

/-- What is left from at to l without the ranges of a set. -/
def cutR : List Rng → Nat → Nat → List Rng
  | [], a, l => [(a, l)]
  | x :: A, a, l => if x.2 < a ∨ l < x.1 then cutR A a l else (if a < x.1 then [(a, x.1 - 1)] else []) ++ (if l ≤ x.2 then [] else cutR A (x.2 + 1) l)
def wo (L A : List Rng) : List Rng := L.flatMap fun r => cutR A r.1 r.2
theorem cutR_mem (n : Nat) : ∀ (A : List Rng) (b a l : Nat), V A b → a ≤ l → (inR n (cutR A a l) ↔ (a ≤ n ∧ n ≤ l) ∧ ¬ inR n A)
  | [], b, a, l, _, _ => by simp [cutR, inR]
  | x :: A, b, a, l, hV, hal => by
    have hx := hV.2 x (by simp)
    have hA : inR n A → x.2 + 1 < n := fun ⟨y, hy, h1, _⟩ => by have := hV.head y hy; omega
    unfold cutR
    split
    · next h =>
      rw [cutR_mem n A b a l hV.tail hal, inR_cons]
      constructor
      · rintro ⟨h1, h2⟩
        exact ⟨h1, fun h3 => h3.elim (fun h4 => by omega) h2⟩
      · rintro ⟨h1, h2⟩
        exact ⟨h1, fun h3 => h2 (.inr h3)⟩
    · next h =>
      have e1 : inR n (if a < x.1 then [(a, x.1 - 1)] else []) ↔ a ≤ n ∧ n < x.1 := by
        split
        · simp [inR]; omega
        · simp [inR]; omega
      have e2 : inR n (if l ≤ x.2 then [] else cutR A (x.2 + 1) l) ↔ (x.2 + 1 ≤ n ∧ n ≤ l) ∧ ¬ inR n A := by
        split
        · simp [inR]; omega
        · rw [cutR_mem n A b (x.2 + 1) l hV.tail (by omega)]
      have e3 : ∀ (L M : List Rng), inR n (L ++ M) ↔ inR n L ∨ inR n M := fun L M => by
        simp only [inR, List.mem_append]
        constructor
        · rintro ⟨y, h | h, h2⟩
          · exact .inl ⟨y, h, h2⟩
          · exact .inr ⟨y, h, h2⟩
        · rintro (⟨y, h, h2⟩ | ⟨y, h, h2⟩)
          · exact ⟨y, .inl h, h2⟩
          · exact ⟨y, .inr h, h2⟩
      rw [e3, e1, e2, inR_cons]
      constructor
      · rintro (h1 | ⟨h1, h2⟩)
        · exact ⟨by omega, fun h3 => h3.elim (fun h4 => by omega) (fun h4 => by have := hA h4; omega)⟩
        · exact ⟨by omega, fun h3 => h3.elim (fun h4 => by omega) h2⟩
      · rintro ⟨h1, h2⟩
        by_cases h3 : n < x.1
        · exact .inl ⟨h1.1, h3⟩
        · refine .inr ⟨⟨?_, h1.2⟩, fun h4 => h2 (.inr h4)⟩
          have : ¬ (x.1 ≤ n ∧ n ≤ x.2) := fun h4 => h2 (.inl h4)
          omega
/-- The ranges rise, with a gap, within a and l. -/
def W (L : List Rng) (a l : Nat) : Prop := L.Pairwise (fun x y => x.2 + 1 < y.1) ∧ ∀ x ∈ L, a ≤ x.1 ∧ x.1 ≤ x.2 ∧ x.2 ≤ l
theorem cutR_W : ∀ (A : List Rng) (b a l : Nat), V A b → a ≤ l → W (cutR A a l) a l
  | [], b, a, l, _, h => ⟨by simp [cutR], by simp [cutR]; omega⟩
  | x :: A, b, a, l, hV, hal => by
    have hx := hV.2 x (by simp)
    unfold cutR
    split
    · exact cutR_W A b a l hV.tail hal
    · next h =>
      have h2 : W (if l ≤ x.2 then [] else cutR A (x.2 + 1) l) (x.2 + 1) l := by
        split
        · exact ⟨.nil, by simp⟩
        · exact cutR_W A b (x.2 + 1) l hV.tail (by omega)
      refine ⟨List.pairwise_append.2 ⟨?_, h2.1, fun y hy z hz => ?_⟩, fun y hy => ?_⟩
      · split <;> simp
      · have hz2 := h2.2 z hz
        split at hy
        · simp at hy; subst hy; show x.1 - 1 + 1 < z.1; omega
        · simp at hy
      · rcases List.mem_append.1 hy with hy | hy
        · split at hy
          · simp at hy; subst hy; exact ⟨Nat.le_refl _, by show a ≤ x.1 - 1; omega, by show x.1 - 1 ≤ l; omega⟩
          · simp at hy
        · have := h2.2 y hy; omega
theorem wo_mem (n : Nat) (L A : List Rng) (b c : Nat) (hL : V L b) (hA : V A c) : inR n (wo L A) ↔ inR n L ∧ ¬ inR n A := by
  unfold wo
  induction L with
  | nil => simp [inR]
  | cons x L ih =>
    have hx := hL.2 x (by simp)
    rw [List.flatMap_cons]
    have e3 : ∀ (L M : List Rng), inR n (L ++ M) ↔ inR n L ∨ inR n M := fun L M => by
      simp only [inR, List.mem_append]
      constructor
      · rintro ⟨y, h | h, h2⟩
        · exact .inl ⟨y, h, h2⟩
        · exact .inr ⟨y, h, h2⟩
      · rintro (⟨y, h, h2⟩ | ⟨y, h, h2⟩)
        · exact ⟨y, .inl h, h2⟩
        · exact ⟨y, .inr h, h2⟩
    rw [e3, cutR_mem n A c x.1 x.2 hA hx.2.1, ih hL.tail, inR_cons]
    constructor
    · rintro (⟨h1, h2⟩ | ⟨h1, h2⟩)
      · exact ⟨.inl h1, h2⟩
      · exact ⟨.inr h1, h2⟩
    · rintro ⟨h1 | h1, h2⟩
      · exact .inl ⟨h1, h2⟩
      · exact .inr ⟨h1, h2⟩
theorem wo_V (L A : List Rng) (b c : Nat) (hL : V L b) (hA : V A c) : V (wo L A) b := by
  have key : ∀ L : List Rng, V L b → (wo L A).Pairwise (fun x y => x.2 + 1 < y.1) ∧ ∀ y ∈ wo L A, ∃ x ∈ L, x.1 ≤ y.1 ∧ y.1 ≤ y.2 ∧ y.2 ≤ x.2 := by
    intro L
    induction L with
    | nil => intro _; exact ⟨.nil, by simp [wo]⟩
    | cons x L ih =>
      intro hL
      obtain ⟨i1, i2⟩ := ih hL.tail
      have hx := hL.2 x (by simp)
      have hc := cutR_W A c x.1 x.2 hA hx.2.1
      have e : wo (x :: L) A = cutR A x.1 x.2 ++ wo L A := by simp [wo]
      rw [e]
      refine ⟨List.pairwise_append.2 ⟨hc.1, i1, fun y hy z hz => ?_⟩, fun y hy => ?_⟩
      · obtain ⟨u, hu, h1, _⟩ := i2 z hz
        have := hL.head u hu
        have := (hc.2 y hy).2.2
        omega
      · rcases List.mem_append.1 hy with hy | hy
        · exact ⟨x, by simp, hc.2 y hy⟩
        · obtain ⟨u, hu, h1⟩ := i2 y hy
          exact ⟨u, by simp [hu], h1⟩
  obtain ⟨h1, h2⟩ := key L hL
  refine ⟨h1, fun y hy => ?_⟩
  obtain ⟨x, hx, h3⟩ := h2 y hy
  have := hL.2 x hx
  omega
theorem wo_top (L A : List Rng) (b c t : Nat) (hL : V L b) (hA : V A c) (ht : ∀ x ∈ L, x.2 < t) : ∀ y ∈ wo L A, y.2 < t := by
  intro y hy
  have hy1 := (wo_V L A b c hL hA).2 y hy
  obtain ⟨x, hx, h1, h2⟩ := ((wo_mem y.2 L A b c hL hA).1 ⟨y, hy, hy1.2.1, Nat.le_refl _⟩).1
  have := ht x hx
  omega
theorem V_len : ∀ (L : List Rng) (b c t : Nat), V L b → (∀ x ∈ L, c ≤ x.1 ∧ x.2 < t) → c ≤ t → L.length + c ≤ t
  | [], _, c, t, _, _, h => by simpa using h
  | x :: L, b, c, t, hV, h, _ => by
    have hx := hV.2 x (by simp)
    have h1 := h x (by simp)
    have ih := V_len L b (x.2 + 1) t hV.tail (fun y hy => ⟨by have := hV.head y hy; omega, (h y (by simp [hy])).2⟩) (by omega)
    simp only [List.length_cons]
    omega
theorem cutR_len : ∀ (A : List Rng) (a l : Nat), (cutR A a l).length ≤ A.length + 1
  | [], _, _ => by simp [cutR]
  | x :: A, a, l => by
    have h1 := cutR_len A a l
    have h2 := cutR_len A (x.2 + 1) l
    unfold cutR
    simp only [List.length_cons]
    split
    · omega
    · rw [List.length_append]
      split <;> split <;> simp <;> omega
theorem wo_take (L A : List Rng) (k : Nat) (x : Rng) (hx : L[k]? = some x) : wo (L.take (k + 1)) A = wo (L.take k) A ++ cutR A x.1 x.2 := by
  unfold wo
  rw [List.take_add_one, hx, List.flatMap_append]
  simp
theorem wo_len (L A : List Rng) : (wo L A).length ≤ L.length * (A.length + 1) := by
  induction L with
  | nil => simp [wo]
  | cons x L ih =>
    have e : wo (x :: L) A = cutR A x.1 x.2 ++ wo L A := by simp [wo]
    have := cutR_len A x.1 x.2
    rw [e, List.length_append, List.length_cons, Nat.add_mul]
    omega
end Go.Proofs.Ytmidlielcioinaa
