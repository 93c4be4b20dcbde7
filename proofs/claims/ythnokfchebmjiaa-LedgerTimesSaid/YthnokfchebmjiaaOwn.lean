/- Things that a call turns, beside one another; the choice of two operations. Conditions: none of their own. -/
import Derived.Test.YthnokfchebmjiaaRc
import Derived.Test.YthnokfchebmjiaaH
namespace Go.Proofs.Ythnokfchebmjiaa
open Go.RowKit

/-- Behind world w only the blocks F were turned; all things of the list lie in them or in new ones, beside one another. -/
structure Own (w : World) (F : List Nat) (wk : World) (L : List Thing) : Prop where
  each : ∀ T ∈ L, T.P wk ∧ ∀ g ∈ T.B, g ∈ F ∨ w.heap.size ≤ g
  pw : L.Pairwise (fun S T => ∀ g ∈ S.B, g ∉ T.B)
  tch : Touch F w wk
section
variable {w wk w' : World} {F : List Nat} {L : List Thing} {T N : Thing}
theorem Own.get (h : Own w F wk L) (hT : T ∈ L) : T.P wk := (h.each T hT).1
theorem Own.keep (h : Own w F wk L) (hk : Touch [] wk w') : Own w F w' L := ⟨fun T hT => ⟨T.st _ _ _ (h.get hT) hk (by simp), (h.each T hT).2⟩, h.pw, h.tch.trans hk (by simp)⟩
theorem Own.new (h : Own w F wk L) (hk : Touch [] wk w') (N : Thing) (hN : N.P w') (hB : ∀ g ∈ N.B, wk.heap.size ≤ g) : Own w F w' (N :: L) := by
  have hs := h.tch.size
  refine ⟨fun T hT => ?_, List.pairwise_cons.2 ⟨fun U hU g hg hm => ?_, h.pw⟩, h.tch.trans hk (by simp)⟩
  · rcases List.mem_cons.1 hT with rfl | hT
    · exact ⟨hN, fun g hg => .inr (Nat.le_trans hs (hB g hg))⟩
    · exact (h.keep hk).each T hT
  · have := hB g hg
    have := U.lt _ (h.get hU) g hm
    omega
theorem own_at : ∀ {L : List Thing} {i : Nat}, L[i]? = some T → (∀ T ∈ L, T.P wk) → L.Pairwise (fun S T => ∀ g ∈ S.B, g ∉ T.B) → Touch T.B wk w' → N.P w' → (∀ g ∈ N.B, g ∈ T.B ∨ wk.heap.size ≤ g) →
    (∀ U ∈ L.set i N, U.P w') ∧ (L.set i N).Pairwise (fun S T => ∀ g ∈ S.B, g ∉ T.B)
  | [], _, h, _, _, _, _, _ => by simp at h
  | S :: L, 0, hi, he, hp, hk, hN, hB => by
    simp at hi
    subst hi
    obtain ⟨h4, h5⟩ := List.pairwise_cons.1 hp
    refine ⟨fun U hU => ?_, List.pairwise_cons.2 ⟨fun U hU g hg hm => ?_, h5⟩⟩
    · rcases List.mem_cons.1 (show U ∈ N :: L from hU) with rfl | hU
      · exact hN
      · exact U.st _ _ _ (he U (by simp [hU])) hk (fun g hg hm => h4 U hU g hm hg)
    · rcases hB g hg with h | h
      · exact h4 U hU g h hm
      · have := U.lt _ (he U (by simp [hU])) g hm
        omega
  | S :: L, i + 1, hi, he, hp, hk, hN, hB => by
    obtain ⟨h4, h5⟩ := List.pairwise_cons.1 hp
    have hi' : L[i]? = some T := by simpa using hi
    obtain ⟨k1, k2⟩ := own_at hi' (fun U hU => he U (by simp [hU])) h5 hk hN hB
    have hTL := List.mem_of_getElem? hi'
    refine ⟨fun U hU => ?_, List.pairwise_cons.2 ⟨fun U hU g hg hm => ?_, k2⟩⟩
    · rcases List.mem_cons.1 (show U ∈ S :: L.set i N from hU) with rfl | hU
      · exact U.st _ _ _ (he U (by simp)) hk (fun g hg hm => h4 T hTL g hg hm)
      · exact k1 U hU
    · rcases List.mem_or_eq_of_mem_set hU with hU | rfl
      · exact h4 U hU g hg hm
      · rcases hB g hm with h | h
        · exact h4 T hTL g hg h
        · have := S.lt _ (he S (by simp)) g hg
          omega
/-- One of the things is turned into another. -/
theorem Own.at (h : Own w F wk L) {i : Nat} (hi : L[i]? = some T) (hk : Touch T.B wk w') (N : Thing) (hN : N.P w') (hB : ∀ g ∈ N.B, g ∈ T.B ∨ wk.heap.size ≤ g) : Own w F w' (L.set i N) := by
  have hs := h.tch.size
  obtain ⟨k1, k2⟩ := own_at hi (fun U hU => h.get hU) h.pw hk hN hB
  have hTL := List.mem_of_getElem? hi
  refine ⟨fun U hU => ⟨k1 U hU, fun g hg => ?_⟩, k2, h.tch.trans hk (fun g hg => (h.each T hTL).2 g hg)⟩
  rcases List.mem_or_eq_of_mem_set hU with hU | rfl
  · exact (h.each U hU).2 g hg
  · rcases hB g hg with h' | h'
    · exact (h.each T hTL).2 g h'
    · exact .inr (Nat.le_trans hs h')
end
/-- A slice of the call's own. -/
def tV (e : TypeId) (sz : Nat) (v : Value) (n : Nat) (xs : List Value) : Thing := ⟨fun w => Sl w e sz v n xs, own v, fun _ _ _ h hk hn => h.touch hk hn, fun _ h => h.lt⟩
/-- A block of cells. -/
def tK (b : Nat) (vs : List Value) (t : TypeId) : Thing := ⟨fun w => IsBlk w b vs t, [b], fun _ _ _ h hk hn => h.touch hk (hn _ (by simp)), fun _ h g hg => by simp at hg; subst hg; exact h.lt⟩
theorem Own.alloc {w wk : World} {F : List Nat} {L : List Thing} (h : Own w F wk L) (vs : List Value) (t : TypeId) : Own w F (wk.alloc (.cells vs.toArray t)) (tK wk.heap.size vs t :: L) :=
  h.new ((Touch.refl _ _).alloc _) (tK wk.heap.size vs t) (IsBlk.new wk vs t) (fun g hg => by simp [tK] at hg; omega)
theorem Own.set {w wk : World} {F : List Nat} {L : List Thing} {b i : Nat} {vs : List Value} {t : TypeId} (h : Own w F wk L) (hi : L[i]? = some (tK b vs t)) (j : Nat) (v : Value) : Own w F (wk.setCell ⟨b, j, none⟩ v) (L.set i (tK b (vs.set j v) t)) :=
  h.at hi ((Touch.refl [b] wk).set (.inl (by simp)) _) (tK b (vs.set j v) t) ((show IsBlk wk b vs t from h.get (List.mem_of_getElem? hi)).set j v) (fun g hg => .inl hg)
theorem Own.append {w wk w' : World} {F : List Nat} {L : List Thing} {i e sz n m : Nat} {v v' : Value} {xs ys : List Value} (h : Own w F wk L) (hi : L[i]? = some (tV e sz v n xs)) (k1 : Sl w' e sz v' (n + m) (xs ++ ys)) (k2 : Touch (own v) wk w') (k3 : ∀ g ∈ own v', g ∈ own v ∨ wk.heap.size ≤ g) : Own w F w' (L.set i (tV e sz v' (n + m) (xs ++ ys))) :=
  h.at hi k2 (tV e sz v' (n + m) (xs ++ ys)) k1 k3
section
variable {P : Program} {Q : Exit → Act → World → Prop} {md : Region.Mode} {C0 C1 : World → Prop} {B : List Nat}
/-- Just two may come up: each is walked. -/
theorem twoG {l rest1 rest2 : List Oper} {i j : Nat} {o1 o2 : Oper} {fuel : Nat} {listed : Array Bool} {a : Act} {w : World} (hr : Region.ready md l.toArray listed = [i, j]) (hd1 : l.drop i = o1 :: rest1) (hd2 : l.drop j = o2 :: rest2)
    (h1 : ∀ K' : Act → World → Prop, Later (∀ a w, Hold C0 C1 B (listed.setIfInBounds i true) w → (Hold C0 C1 B (listed.setIfInBounds i true) w → wpAnyG P md l.toArray Q C0 C1 B fuel (listed.setIfInBounds i true) a w) → K' a w) → if Region.wanted o1 (yielded l.toArray a.tmps) = true then Oper.wp P o1 a w K' Q else K' (a.put o1.dst undef) w)
    (h2 : ∀ K' : Act → World → Prop, Later (∀ a w, Hold C0 C1 B (listed.setIfInBounds j true) w → (Hold C0 C1 B (listed.setIfInBounds j true) w → wpAnyG P md l.toArray Q C0 C1 B fuel (listed.setIfInBounds j true) a w) → K' a w) → if Region.wanted o2 (yielded l.toArray a.tmps) = true then Oper.wp P o2 a w K' Q else K' (a.put o2.dst undef) w) :
    wpAnyG P md l.toArray Q C0 C1 B (fuel + 1) listed a w := by
  refine ⟨fun h0 => (by rw [hr] at h0; cases h0), fun k hk => ?_⟩
  rw [hr] at hk
  rcases (show k = i ∨ k = j by simpa using hk) with rfl | rfl
  · exact wpOp_step (drop_get hd1) (fun K hK => h1 K (Later.mk fun a w h1 h2 => hK a w ⟨h1, h2 h1⟩))
  · exact wpOp_step (drop_get hd2) (fun K hK => h2 K (Later.mk fun a w h1 h2 => hK a w ⟨h1, h2 h1⟩))
end
end Go.Proofs.Ythnokfchebmjiaa
