/- Sets of numbers as lists of ranges, in plain Lean. Conditions: none of their own. -/
namespace Go.Proofs.Ythnokfchebmjiaa
abbrev Rng := Nat × Nat
/-- The greatest number. -/
def mx : Nat := 4611686018427387903
/-- A range is put in. -/
def sp : List Rng → Nat → Nat → List Rng
  | [], f, l => [(f, l)]
  | x :: L, f, l => if x.2 + 1 < f then x :: sp L f l else if l + 1 < x.1 then (f, l) :: x :: L else sp L (min f x.1) (max l x.2)
def spOp (L : List Rng) (b f l : Nat) : List Rng := if max f b ≤ min l mx then sp L (max f b) (min l mx) else L
/-- All below b is taken out. -/
def fgt (L : List Rng) (b : Nat) : List Rng := L.filterMap fun x => if max x.1 b ≤ x.2 then some (max x.1 b, x.2) else none
def inR (n : Nat) (L : List Rng) : Prop := ∃ x ∈ L, x.1 ≤ n ∧ n ≤ x.2
def hasB (n : Nat) (L : List Rng) : Bool := L.any fun x => decide (x.1 ≤ n) && decide (n ≤ x.2)
def cnt (L : List Rng) : Nat := (L.map fun x => x.2 - x.1 + 1).sum
/-- The ranges rise, none touches the next, all within b and mx. -/
def V (L : List Rng) (b : Nat) : Prop := L.Pairwise (fun x y => x.2 + 1 < y.1) ∧ ∀ x ∈ L, b ≤ x.1 ∧ x.1 ≤ x.2 ∧ x.2 ≤ mx

theorem hasB_iff (n : Nat) (L : List Rng) : hasB n L = true ↔ inR n L := by
  simp [hasB, inR]
theorem V.nil (b : Nat) : V [] b := ⟨.nil, by simp⟩
theorem V.tail {x : Rng} {L : List Rng} {b : Nat} (h : V (x :: L) b) : V L b := ⟨(List.pairwise_cons.1 h.1).2, fun y hy => h.2 y (List.mem_cons_of_mem _ hy)⟩
theorem V.head {x : Rng} {L : List Rng} {b : Nat} (h : V (x :: L) b) : ∀ y ∈ L, x.2 + 1 < y.1 := (List.pairwise_cons.1 h.1).1
theorem V.mono {L : List Rng} {b c : Nat} (h : V L b) (hc : c ≤ b) : V L c := ⟨h.1, fun x hx => ⟨Nat.le_trans hc (h.2 x hx).1, (h.2 x hx).2⟩⟩
theorem inR_cons (n : Nat) (x : Rng) (L : List Rng) : inR n (x :: L) ↔ (x.1 ≤ n ∧ n ≤ x.2) ∨ inR n L := by
  simp [inR]
theorem inR_nil (n : Nat) : ¬ inR n [] := by simp [inR]
theorem sp_mem (n : Nat) : ∀ (L : List Rng) (b f l : Nat), V L b → f ≤ l → (inR n (sp L f l) ↔ inR n L ∨ (f ≤ n ∧ n ≤ l))
  | [], b, f, l, _, _ => by simp [sp, inR]
  | x :: L, b, f, l, hV, hfl => by
    have hx := hV.2 x (by simp)
    unfold sp
    split
    · rw [inR_cons, sp_mem n L b f l hV.tail hfl, inR_cons, or_assoc]
    · split
      · rw [inR_cons, inR_cons]
        exact Or.comm
      · rw [sp_mem n L b _ _ hV.tail (by omega), inR_cons]
        constructor
        · rintro (h | h)
          · exact .inl (.inr h)
          · by_cases h1 : f ≤ n ∧ n ≤ l
            · exact .inr h1
            · exact .inl (.inl (by omega))
        · rintro ((h | h) | h)
          · exact .inr (by omega)
          · exact .inl h
          · exact .inr (by omega)
theorem sp_all (P : Rng → Prop) : ∀ (L : List Rng) (f l : Nat), (∀ x ∈ L, P x) → (∀ f' l', (f' = f ∨ ∃ x ∈ L, f' = x.1) → f' ≤ f → (l' = l ∨ ∃ x ∈ L, l' = x.2) → l ≤ l' → P (f', l')) → ∀ y ∈ sp L f l, P y
  | [], f, l, _, h => by
    intro y hy
    simp [sp] at hy
    subst hy
    exact h f l (.inl rfl) (Nat.le_refl _) (.inl rfl) (Nat.le_refl _)
  | x :: L, f, l, hL, h => by
    intro y hy
    unfold sp at hy
    split at hy
    · rcases List.mem_cons.1 hy with rfl | hy
      · exact hL _ (by simp)
      · refine sp_all P L f l (fun z hz => hL z (by simp [hz])) (fun f' l' h1 h2 h3 h4 => h f' l' ?_ h2 ?_ h4) y hy
        · rcases h1 with h1 | ⟨z, hz, h1⟩
          · exact .inl h1
          · exact .inr ⟨z, by simp [hz], h1⟩
        · rcases h3 with h1 | ⟨z, hz, h1⟩
          · exact .inl h1
          · exact .inr ⟨z, by simp [hz], h1⟩
    · split at hy
      · rcases List.mem_cons.1 hy with rfl | hy
        · exact h f l (.inl rfl) (Nat.le_refl _) (.inl rfl) (Nat.le_refl _)
        · exact hL _ hy
      · refine sp_all P L _ _ (fun z hz => hL z (by simp [hz])) (fun f' l' h1 h2 h3 h4 => h f' l' ?_ (by clear h1 h3; omega) ?_ (by clear h1 h3; omega)) y hy
        · rcases h1 with h1 | ⟨z, hz, h1⟩
          · clear h3
            by_cases hm : f ≤ x.1
            · exact .inl (by omega)
            · exact .inr ⟨x, by simp, by omega⟩
          · exact .inr ⟨z, by simp [hz], h1⟩
        · clear h1
          rcases h3 with h1 | ⟨z, hz, h1⟩
          · by_cases hm : x.2 ≤ l
            · exact .inl (by omega)
            · exact .inr ⟨x, by simp, by omega⟩
          · exact .inr ⟨z, by simp [hz], h1⟩
theorem sp_lo (c : Nat) : ∀ (L : List Rng) (f l : Nat), (∀ x ∈ L, c < x.1) → c < f → ∀ y ∈ sp L f l, c < y.1 := fun L f l hL hf =>
  sp_all (fun y => c < y.1) L f l hL (fun f' l' h1 _ _ _ => by
    rcases h1 with h1 | ⟨z, hz, h1⟩
    · show c < f'; omega
    · have := hL z hz; show c < f'; omega)
theorem sp_V : ∀ (L : List Rng) (b f l : Nat), V L b → f ≤ l → b ≤ f → l ≤ mx → V (sp L f l) b
  | [], b, f, l, _, h1, h2, h3 => ⟨by simp [sp], by simp [sp]; omega⟩
  | x :: L, b, f, l, hV, h1, h2, h3 => by
    have hx := hV.2 x (by simp)
    unfold sp
    split
    · next hlt =>
      have ih := sp_V L b f l hV.tail h1 h2 h3
      refine ⟨List.pairwise_cons.2 ⟨fun y hy => ?_, ih.1⟩, fun y hy => ?_⟩
      · exact sp_lo (x.2 + 1) L f l hV.head hlt y hy
      · rcases List.mem_cons.1 hy with rfl | hy
        · exact hx
        · exact ih.2 y hy
    · split
      · next h4 =>
        refine ⟨List.pairwise_cons.2 ⟨fun y hy => ?_, hV.1⟩, fun y hy => ?_⟩
        · rcases List.mem_cons.1 hy with rfl | hy
          · exact h4
          · have := hV.head y hy; show l + 1 < y.1; omega
        · rcases List.mem_cons.1 hy with rfl | hy
          · exact ⟨h2, h1, h3⟩
          · exact hV.2 y hy
      · exact sp_V L b _ _ hV.tail (by omega) (by omega) (by omega)
theorem spOp_V {L : List Rng} {b : Nat} (h : V L b) (f l : Nat) : V (spOp L b f l) b := by
  unfold spOp
  split
  · exact sp_V L b _ _ h (by omega) (by omega) (by omega)
  · exact h
theorem fgt_cons (x : Rng) (L : List Rng) (b : Nat) : fgt (x :: L) b = if max x.1 b ≤ x.2 then (max x.1 b, x.2) :: fgt L b else fgt L b := by
  unfold fgt
  rw [List.filterMap_cons]
  split <;> simp_all
theorem fgt_mem (n b : Nat) : ∀ (L : List Rng), inR n (fgt L b) ↔ inR n L ∧ b ≤ n
  | [] => by simp [fgt, inR]
  | x :: L => by
    rw [fgt_cons]
    split
    · rw [inR_cons, fgt_mem n b L, inR_cons]
      constructor
      · rintro (h | h)
        · exact ⟨.inl (by simp at h; omega), by simp at h; omega⟩
        · exact ⟨.inr h.1, h.2⟩
      · rintro ⟨h | h, h2⟩
        · exact .inl (by simp; omega)
        · exact .inr ⟨h, h2⟩
    · rw [fgt_mem n b L, inR_cons]
      constructor
      · rintro ⟨h, h2⟩; exact ⟨.inr h, h2⟩
      · rintro ⟨h | h, h2⟩
        · omega
        · exact ⟨h, h2⟩
theorem fgt_V {b c : Nat} : ∀ {L : List Rng}, V L b → V (fgt L c) (max b c)
  | [], _ => V.nil _
  | x :: L, h => by
    have ih := fgt_V (c := c) h.tail
    have hx := h.2 x (by simp)
    rw [fgt_cons]
    split
    · refine ⟨List.pairwise_cons.2 ⟨fun y hy => ?_, ih.1⟩, fun y hy => ?_⟩
      · unfold fgt at hy
        obtain ⟨z, hz, he⟩ := List.mem_filterMap.1 hy
        split at he
        · simp at he
          subst he
          have := h.head z hz
          show x.2 + 1 < max z.1 c
          omega
        · simp at he
      · rcases List.mem_cons.1 hy with rfl | hy
        · exact ⟨by show max b c ≤ max x.1 c; omega, by show max x.1 c ≤ x.2; omega, hx.2.2⟩
        · exact ih.2 y hy
    · exact ih
theorem fgt_same {b : Nat} : ∀ {L : List Rng}, V L b → fgt L b = L
  | [], _ => rfl
  | x :: L, h => by
    have hx := h.2 x (by simp)
    rw [fgt_cons, fgt_same h.tail, Nat.max_eq_left hx.1, if_pos hx.2.1]
/-- A set of numbers has one list of ranges. -/
theorem V.ext {b c : Nat} : ∀ {L M : List Rng}, V L b → V M c → (∀ n, inR n L ↔ inR n M) → L = M
  | [], [], _, _, _ => rfl
  | [], y :: M, _, h, he => by
    have := (he y.1).2 ⟨y, by simp, Nat.le_refl _, (h.2 y (by simp)).2.1⟩
    exact absurd this (inR_nil _)
  | x :: L, [], h, _, he => by
    have := (he x.1).1 ⟨x, by simp, Nat.le_refl _, (h.2 x (by simp)).2.1⟩
    exact absurd this (inR_nil _)
  | x :: L, y :: M, h1, h2, he => by
    have hx := h1.2 x (by simp)
    have hy := h2.2 y (by simp)
    have lo : ∀ {z : Rng} {K : List Rng} {d n : Nat}, V (z :: K) d → inR n K → z.2 + 1 < n := fun hV ⟨u, hu, h3, _⟩ => by
      have := hV.head u hu
      omega
    have e1 : x.1 = y.1 := by
      have a1 := (he x.1).1 ((inR_cons _ _ _).2 (.inl ⟨Nat.le_refl _, hx.2.1⟩))
      have a2 := (he y.1).2 ((inR_cons _ _ _).2 (.inl ⟨Nat.le_refl _, hy.2.1⟩))
      rw [inR_cons] at a1 a2
      rcases a1 with a1 | a1
      · rcases a2 with a2 | a2
        · omega
        · have := lo h1 a2; omega
      · have := lo h2 a1
        rcases a2 with a2 | a2
        · omega
        · have := lo h1 a2; omega
    have e2 : x.2 = y.2 := by
      rcases Nat.lt_trichotomy x.2 y.2 with hl | hl | hl
      · have a1 := (he (x.2 + 1)).2 ((inR_cons _ _ _).2 (.inl ⟨by omega, by omega⟩))
        rw [inR_cons] at a1
        rcases a1 with a1 | a1
        · omega
        · have := lo h1 a1; omega
      · exact hl
      · have a1 := (he (y.2 + 1)).1 ((inR_cons _ _ _).2 (.inl ⟨by omega, by omega⟩))
        rw [inR_cons] at a1
        rcases a1 with a1 | a1
        · omega
        · have := lo h2 a1; omega
    have e3 : x = y := Prod.ext e1 e2
    subst e3
    rw [V.ext h1.tail h2.tail fun n => ?_]
    constructor
    · intro hn
      have a1 := (he n).1 ((inR_cons _ _ _).2 (.inr hn))
      have := lo h1 hn
      rw [inR_cons] at a1
      rcases a1 with a1 | a1
      · omega
      · exact a1
    · intro hn
      have a1 := (he n).2 ((inR_cons _ _ _).2 (.inr hn))
      have := lo h2 hn
      rw [inR_cons] at a1
      rcases a1 with a1 | a1
      · omega
      · exact a1
end Go.Proofs.Ythnokfchebmjiaa
