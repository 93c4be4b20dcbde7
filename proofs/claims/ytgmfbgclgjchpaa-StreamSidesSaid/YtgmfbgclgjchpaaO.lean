/- A law on a region that draws its order: an invariant over what is done, what it left and the world; each operation is walked once. Conditions: none. -/
import Derived.Orders
import Derived.RegionTactic
namespace Go.Proofs.Ytgmfbgclgjchpaa

theorem countP_step : ∀ (l : List Bool) (i : Nat), l[i]? = some false → (l.set i true).countP (fun b => !b) + 1 = l.countP (fun b => !b)
  | [], i, h => by simp at h
  | b :: l, 0, h => by
    simp at h
    subst h
    simp
  | b :: l, i + 1, h => by
    have := countP_step l i (by simpa using h)
    simp only [List.set_cons_succ, List.countP_cons]
    omega

section
variable {P : Program} {ops : Array Oper} {Q : Exit → Act → World → Prop} {md : Region.Mode}
theorem wpAny_inv (Inv : Array Bool → Act → World → Prop)
    (hstep : ∀ l a w i, Inv l a w → i ∈ Region.ready md ops l → wpOp P ops Q i (fun a' w' => Inv (l.setIfInBounds i true) a' w') a w)
    (hend : ∀ l a w, Inv l a w → Region.ready md ops l = [] → Q .normal a w) :
    ∀ (fuel : Nat) (l : Array Bool) (a : Act) (w : World), Inv l a w → l.toList.countP (fun b => !b) ≤ fuel → wpAny P md ops Q fuel l a w := by
  intro fuel
  induction fuel with
  | zero =>
    intro l a w hI hc
    have hr : Region.ready md ops l = [] := by
      rw [List.eq_nil_iff_forall_not_mem]
      intro j hj
      have h0 := (mem_ready.1 hj).1
      have hlt : j < l.size := by
        rcases Nat.lt_or_ge j l.size with h | h
        · exact h
        · simp [Array.getElem?_eq_none h] at h0
      have h1 : l.toList[j]? = some false := by
        simp [hlt] at h0 ⊢
        exact h0
      have := countP_step _ _ h1
      omega
    exact ⟨hr, hend l a w hI hr⟩
  | succ fuel ih =>
    intro l a w hI hc
    refine ⟨fun hr => hend l a w hI hr, fun i hi => wpOp_mono (fun a' w' hI' => ih _ a' w' hI' ?_) (hstep l a w i hI hi)⟩
    have h0 := (mem_ready.1 hi).1
    have hlt : i < l.size := by
      rcases Nat.lt_or_ge i l.size with h | h
      · exact h
      · simp [Array.getElem?_eq_none h] at h0
    have h1 : l.toList[i]? = some false := by
      simp [hlt] at h0 ⊢
      exact h0
    have := countP_step _ _ h1
    simp only [Array.toList_setIfInBounds]
    omega

theorem wp_region_inv {id : Nat} {a : Act} {w : World} (Inv : Act → Array Bool → Act → World → Prop) (hm : P.follows .mixedOrders = true)
    (h0 : Inv a (Array.replicate ops.size false) a w.drew)
    (hstep : ∀ l a' w' i, Inv a l a' w' → i ∈ Region.ready .any ops l → wpOp P ops Q i (fun a'' w'' => Inv a (l.setIfInBounds i true) a'' w'') a' w')
    (hend : ∀ l a' w', Inv a l a' w' → Region.ready .any ops l = [] → Q .normal a' w') : (Code.region id ops true).wp P Q a w :=
  wp_region_any hm (wpAny_inv (Inv a) hstep hend _ _ _ _ h0 (by simp [List.countP_replicate]))
end
end Go.Proofs.Ytgmfbgclgjchpaa
