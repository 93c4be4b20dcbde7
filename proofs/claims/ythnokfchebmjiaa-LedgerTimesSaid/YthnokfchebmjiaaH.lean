/- A law on a region that draws its order: operations are taken first under a condition C0 that holds throughout, or under C1, that holds as long as none of the operations of a list B has come up, all of which wait for the one that is taken. Conditions: none of its own. -/
import Derived.OrdersHeld
import Derived.RegionTactic
import Derived.StillTail
namespace Go.Proofs.Ythnokfchebmjiaa

section
variable {P : Program} {ops : Array Oper} {Q : Exit → Act → World → Prop} {md : Region.Mode} {C0 C1 : World → Prop} {B : List Nat}
/-- A statement that no tactic looks into until it is opened. -/
structure Later (p : Prop) : Prop where
  mk ::
  out : p
/-- None of the list has come up. -/
def unl (B : List Nat) (listed : Array Bool) : Bool := B.all fun s => !(listed.getD s true)
def Hold (C0 C1 : World → Prop) (B : List Nat) (listed : Array Bool) (w : World) : Prop := C0 w ∧ (unl B listed = true → C1 w)
theorem unl_set {i : Nat} {listed : Array Bool} (h : B.contains i = false) : unl B (listed.setIfInBounds i true) = unl B listed := by
  unfold unl
  rw [Bool.eq_iff_iff, List.all_eq_true, List.all_eq_true]
  refine forall_congr' fun s => forall_congr' fun hs => ?_
  have hne : i ≠ s := fun e => by subst e; simp [hs] at h
  rw [getD_set_ne true hne]
/-- Whatever order is picked, and the condition holds behind every operation. -/
def wpAnyG (P : Program) (md : Region.Mode) (ops : Array Oper) (Q : Exit → Act → World → Prop) (C0 C1 : World → Prop) (B : List Nat) : Nat → Array Bool → Act → World → Prop
  | 0, listed, a, w => Region.ready md ops listed = [] ∧ Q .normal a w
  | fuel + 1, listed, a, w =>
    (Region.ready md ops listed = [] → Q .normal a w) ∧
    ∀ i ∈ Region.ready md ops listed, wpOp P ops Q i (fun a' w' => Hold C0 C1 B (listed.setIfInBounds i true) w' ∧ wpAnyG P md ops Q C0 C1 B fuel (listed.setIfInBounds i true) a' w') a w
theorem wpAny_of_G : ∀ (fuel : Nat) (listed : Array Bool) (a : Act) (w : World), wpAnyG P md ops Q C0 C1 B fuel listed a w → wpAny P md ops Q fuel listed a w
  | 0, _, _, _, h => h
  | fuel + 1, _, _, _, h => ⟨h.1, fun i hi => wpOp_mono (fun a' w' h' => wpAny_of_G fuel _ a' w' h'.2) (h.2 i hi)⟩
theorem not_ready {i j : Nat} {listed : Array Bool} (hw : Region.waitsFor md ops j i = true) (hun : listed.getD i true = false) (hj : j ∈ Region.ready md ops listed) : False := by
  obtain ⟨_, o, ho, hall⟩ := mem_ready.1 hj
  obtain ⟨oj, hoj, e, he, hb, hon⟩ := Region.waitsFor_spec hw
  obtain rfl : oj = o := Option.some.inj (hoj.symm.trans ho)
  have h3 := hall e he hb
  rw [hon] at h3
  rcases Nat.lt_or_ge i listed.size with h' | h'
  · simp [h'] at hun h3; rw [hun] at h3; cases h3
  · simp [Array.getElem?_eq_none h'] at h3
theorem wpAnyG_first {b : Bool} {C : World → Prop} (hC : ∀ w, C0 w → (b = true → C1 w) → C w) {i : Nat} {oi : Oper} {v : Value} (hi : ops[i]? = some oi) (hiB : B.contains i = false)
    (hblk : b = true → ∀ s ∈ B, Region.waitsFor md ops s i = true) (hsel : ∀ (j : Nat) (o : Oper) cs b, ops[j]? = some o → o.op ≠ .select cs b)
    (hQ : ∀ c a w, Q (.panic c) (a.put oi.dst v) w → Q (.panic c) a w) :
    ∀ (fuel : Nat) (listed : Array Bool) (a : Act) (w : World), (b = true → unl B listed = true) →
      (∀ j oj, ops[j]? = some oj → j ≠ i → listed.getD j true = false → (∀ e ∈ oj.after, Region.binds md e = true → e.on ≠ i) → oi.apart ops oj = true) →
      i ∈ Region.ready md ops listed → YieldsIf P ops C oi v a → Hold C0 C1 B listed w →
      wpAnyG P md ops Q C0 C1 B fuel (listed.setIfInBounds i true) (a.put oi.dst v) w → wpAnyG P md ops Q C0 C1 B (fuel + 1) listed a w := by
  intro fuel
  induction fuel with
  | zero =>
    intro listed a w hb _ hr hy hS H
    refine ⟨fun h => (by rw [h] at hr; cases hr), fun j hj => ?_⟩
    by_cases hji : j = i
    · subst hji
      exact hy.wpOp hi (hC w hS.1 (fun h => hS.2 (hb h))) ⟨by unfold Hold at *; rw [unl_set hiB]; exact hS, H⟩
    · have := ready_mono hj hji
      rw [H.1] at this
      cases this
  | succ fuel ih =>
    intro listed a w hb hfree hr hy hS H
    refine ⟨fun h => (by rw [h] at hr; cases hr), fun j hj => ?_⟩
    have hun := (mem_ready.1 hr).1
    by_cases hji : j = i
    · subst hji
      exact hy.wpOp hi (hC w hS.1 (fun h => hS.2 (hb h))) ⟨by unfold Hold at *; rw [unl_set hiB]; exact hS, H⟩
    · have h1 := H.2 j (ready_mono hj hji)
      obtain ⟨hjun, oj, hoj, hall⟩ := mem_ready.1 hj
      have hnot : ∀ e ∈ oj.after, Region.binds md e = true → e.on ≠ i := fun e he hb heq => by
        have h1 := hall e he hb
        rw [heq] at h1
        rcases Nat.lt_or_ge i listed.size with h' | h'
        · simp [h'] at hun h1; rw [hun] at h1; cases h1
        · simp [Array.getElem?_eq_none h'] at h1
      have h2 := wpOp_putIf hoj (hfree j oj hoj hji hjun hnot) (fun cs b => hsel i oi cs b hi) (fun cs b => hsel j oj cs b hoj) hQ hy h1
      have hfree' : ∀ k ok, ops[k]? = some ok → k ≠ i → (listed.setIfInBounds j true).getD k true = false →
          (∀ e ∈ ok.after, Region.binds md e = true → e.on ≠ i) → oi.apart ops ok = true := fun k ok hk hki hun hno => by
        refine hfree k ok hk hki ?_ hno
        by_cases hjk : j = k
        · subst hjk; exact hjun
        · rw [getD_set_ne true hjk] at hun; exact hun
      have hb' : b = true → unl B (listed.setIfInBounds j true) = true := fun h => by
        rw [unl_set]
        · exact hb h
        · cases hjB : B.contains j with
          | false => rfl
          | true => exact (not_ready (hblk h j (by simpa using hjB)) hun hj).elim
      have hcomm : (listed.setIfInBounds i true).setIfInBounds j true = (listed.setIfInBounds j true).setIfInBounds i true := Array.setIfInBounds_comm _ _ (Ne.symm hji)
      refine wpOp_mono (fun a' w' h3 => ?_) h2
      obtain ⟨h4, h5, h6⟩ := h3
      rw [hcomm] at h5 h6
      have h7 : Hold C0 C1 B (listed.setIfInBounds j true) w' := by unfold Hold at *; rw [unl_set hiB] at h5; exact h5
      exact ⟨h7, ih (listed.setIfInBounds j true) a' w' hb' hfree' (ready_mono hr (Ne.symm hji)) h4 h7 h6⟩
/-- Number i first, under C0. -/
theorem wpAnyG_take {i : Nat} {oi : Oper} {v : Value} {fuel : Nat} {listed : Array Bool} {a : Act} {w : World} (hi : ops[i]? = some oi) (hiB : B.contains i = false)
    (hs : Region.noSelect ops = true) (hf : Region.free md ops listed i = true) (hr : (Region.ready md ops listed).contains i = true)
    (hQ : ∀ c a w, Q (.panic c) (a.put oi.dst v) w → Q (.panic c) a w) (hy : YieldsIf P ops C0 oi v a) (hS : Hold C0 C1 B listed w)
    (h : Hold C0 C1 B (listed.setIfInBounds i true) w → wpAnyG P md ops Q C0 C1 B fuel (listed.setIfInBounds i true) (a.put oi.dst v) w) : wpAnyG P md ops Q C0 C1 B (fuel + 1) listed a w :=
  wpAnyG_first (b := false) (C := C0) (fun _ h _ => h) hi hiB (fun h => by cases h) (Region.noSelect_spec hs) hQ fuel listed a w (fun h => by cases h) (Region.free_spec hi hf) (by simpa using hr) hy hS
    (h (by unfold Hold at *; rw [unl_set hiB]; exact hS))
/-- Number i first, under C1: all of B wait for it. -/
theorem wpAnyG_take1 {i : Nat} {oi : Oper} {v : Value} {fuel : Nat} {listed : Array Bool} {a : Act} {w : World} (hi : ops[i]? = some oi) (hiB : B.contains i = false)
    (hs : Region.noSelect ops = true) (hf : Region.free md ops listed i = true) (hr : (Region.ready md ops listed).contains i = true) (hu : unl B listed = true) (hw : (B.all fun s => Region.waitsFor md ops s i) = true)
    (hQ : ∀ c a w, Q (.panic c) (a.put oi.dst v) w → Q (.panic c) a w) (hy : YieldsIf P ops (fun w => C0 w ∧ C1 w) oi v a) (hS : Hold C0 C1 B listed w)
    (h : Hold C0 C1 B (listed.setIfInBounds i true) w → wpAnyG P md ops Q C0 C1 B fuel (listed.setIfInBounds i true) (a.put oi.dst v) w) : wpAnyG P md ops Q C0 C1 B (fuel + 1) listed a w :=
  wpAnyG_first (b := true) (C := fun w => C0 w ∧ C1 w) (fun _ h1 h2 => ⟨h1, h2 rfl⟩) hi hiB (fun _ s hs => List.all_eq_true.1 hw s hs) (Region.noSelect_spec hs) hQ fuel listed a w (fun _ => hu) (Region.free_spec hi hf) (by simpa using hr) hy hS
    (h (by unfold Hold at *; rw [unl_set hiB]; exact hS))
/-- Just one may come up: it is walked; behind it the condition is shown anew. -/
theorem wpAnyG_one {i : Nat} {o : Oper} {fuel : Nat} {listed : Array Bool} {a : Act} {w : World} (hr : Region.ready md ops listed = [i]) (ho : ops[i]? = some o)
    (h : ∀ K' : Act → World → Prop, Later (∀ a w, Hold C0 C1 B (listed.setIfInBounds i true) w → (Hold C0 C1 B (listed.setIfInBounds i true) w → wpAnyG P md ops Q C0 C1 B fuel (listed.setIfInBounds i true) a w) → K' a w) → if Region.wanted o (yielded ops a.tmps) = true then Oper.wp P o a w K' Q else K' (a.put o.dst undef) w) :
    wpAnyG P md ops Q C0 C1 B (fuel + 1) listed a w := by
  refine ⟨fun h0 => (by rw [hr] at h0; cases h0), fun j hj => ?_⟩
  rw [hr] at hj
  obtain rfl : j = i := by simpa using hj
  exact wpOp_step ho (fun K hK => h K (Later.mk fun a w h1 h2 => hK a w ⟨h1, h2 h1⟩))
theorem drop_get {l rest : List Oper} {i : Nat} {o : Oper} (h : l.drop i = o :: rest) : l.toArray[i]? = some o := by
  rw [List.getElem?_toArray]
  have := congrArg (fun x => x[0]?) h
  simpa using this
/-- The same, the operation read off the list, so that it is written out. -/
theorem takeG {l rest : List Oper} {i : Nat} {oi : Oper} {v : Value} {fuel : Nat} {listed : Array Bool} {a : Act} {w : World} (hd : l.drop i = oi :: rest) (hiB : B.contains i = false)
    (hs : Region.noSelect l.toArray = true) (hf : Region.free md l.toArray listed i = true) (hr : (Region.ready md l.toArray listed).contains i = true)
    (hQ : ∀ c a w, Q (.panic c) (a.put oi.dst v) w → Q (.panic c) a w) (hy : YieldsIf P l.toArray C0 oi v a) (hS : Hold C0 C1 B listed w)
    (h : Hold C0 C1 B (listed.setIfInBounds i true) w → wpAnyG P md l.toArray Q C0 C1 B fuel (listed.setIfInBounds i true) (a.put oi.dst v) w) : wpAnyG P md l.toArray Q C0 C1 B (fuel + 1) listed a w :=
  wpAnyG_take (drop_get hd) hiB hs hf hr hQ hy hS h
theorem takeG1 {l rest : List Oper} {i : Nat} {oi : Oper} {v : Value} {fuel : Nat} {listed : Array Bool} {a : Act} {w : World} (hd : l.drop i = oi :: rest) (hiB : B.contains i = false)
    (hs : Region.noSelect l.toArray = true) (hf : Region.free md l.toArray listed i = true) (hr : (Region.ready md l.toArray listed).contains i = true) (hu : unl B listed = true) (hw : (B.all fun s => Region.waitsFor md l.toArray s i) = true)
    (hQ : ∀ c a w, Q (.panic c) (a.put oi.dst v) w → Q (.panic c) a w) (hy : YieldsIf P l.toArray (fun w => C0 w ∧ C1 w) oi v a) (hS : Hold C0 C1 B listed w)
    (h : Hold C0 C1 B (listed.setIfInBounds i true) w → wpAnyG P md l.toArray Q C0 C1 B fuel (listed.setIfInBounds i true) (a.put oi.dst v) w) : wpAnyG P md l.toArray Q C0 C1 B (fuel + 1) listed a w :=
  wpAnyG_take1 (drop_get hd) hiB hs hf hr hu hw hQ hy hS h
theorem oneG {l rest : List Oper} {i : Nat} {o : Oper} {fuel : Nat} {listed : Array Bool} {a : Act} {w : World} (hr : Region.ready md l.toArray listed = [i]) (hd : l.drop i = o :: rest)
    (h : ∀ K' : Act → World → Prop, Later (∀ a w, Hold C0 C1 B (listed.setIfInBounds i true) w → (Hold C0 C1 B (listed.setIfInBounds i true) w → wpAnyG P md l.toArray Q C0 C1 B fuel (listed.setIfInBounds i true) a w) → K' a w) → if Region.wanted o (yielded l.toArray a.tmps) = true then Oper.wp P o a w K' Q else K' (a.put o.dst undef) w) :
    wpAnyG P md l.toArray Q C0 C1 B (fuel + 1) listed a w :=
  wpAnyG_one hr (drop_get hd) h
theorem wpAnyG_done {listed : Array Bool} {a : Act} {w : World} (hr : Region.ready md ops listed = []) (h : Q .normal a w) :
    ∀ fuel, wpAnyG P md ops Q C0 C1 B fuel listed a w
  | 0 => ⟨hr, h⟩
  | _ + 1 => ⟨fun _ => h, by rw [hr]; simp⟩
theorem wp_region_hold {id : Nat} {a : Act} {w : World} {l : List Oper} (C0 C1 : World → Prop) (B : List Nat) (lst : List Bool) (hl : (lst == List.replicate l.length false) = true) (hm : P.follows .mixedOrders = true) (h0 : C0 w.drew) (h1 : C1 w.drew)
    (h : Hold C0 C1 B lst.toArray w.drew → wpAnyG P .any l.toArray Q C0 C1 B l.length lst.toArray a w.drew) : (Code.region id l.toArray true).wp P Q a w := by
  have hl' : lst = List.replicate l.length false := by simpa using hl
  subst hl'
  refine wp_region_any hm ?_
  have := wpAny_of_G _ _ _ _ (h ⟨h0, fun _ => h1⟩)
  simpa using this
end
end Go.Proofs.Ythnokfchebmjiaa
