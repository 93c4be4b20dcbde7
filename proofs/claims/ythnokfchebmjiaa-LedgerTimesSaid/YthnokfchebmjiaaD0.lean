/- Plain facts on a list whose elements are struck out one by one; slices of numbers. Conditions: none of their own. -/
import Derived.Test.YthnokfchebmjiaaRgS
import Derived.Test.YthnokfchebmjiaaM
namespace Go.Proofs.Ythnokfchebmjiaa
open Go.RowKit

theorem und37 : Try.prog.underlying 37 = some (.slice 28) := by kernel_rfl
theorem info28 : (Try.prog.info? 28).map (fun i => (i.zero, i.size, i.bytes)) = some (some (.int .u64 0), 1, 8) := by kernel_rfl
theorem zero28 (w : World) : (zeroValue 28).run Try.prog w = .ok (.int .u64 0) w := by kernel_rfl
theorem us_app (l m : List Nat) : us (l ++ m) = us l ++ us m := by simp [us]
theorem us_one (ns : List Nat) : ∀ u ∈ us ns, u.oneCell' = true := by
  intro u hu
  unfold us at hu
  obtain ⟨n, _, rfl⟩ := List.mem_map.1 hu
  rfl
theorem us_set (l : List Nat) (k x : Nat) : (us l).set k (.int .u64 (x : Int)) = us (l.set k x) := by
  unfold us
  rw [List.map_set]
/-- The blocks of B are as they were. -/
def Keeps (B : List Nat) (w w' : World) : Prop := w.heap.size ≤ w'.heap.size ∧ ∀ g ∈ B, w'.heap[g]? = w.heap[g]?
theorem Keeps.refl (B : List Nat) (w : World) : Keeps B w w := ⟨Nat.le_refl _, fun _ _ => rfl⟩
theorem Keeps.trans {B : List Nat} {w w1 w2 : World} (h : Keeps B w w1) (k : Keeps B w1 w2) : Keeps B w w2 := ⟨Nat.le_trans h.1 k.1, fun g hg => (k.2 g hg).trans (h.2 g hg)⟩
theorem Keeps.of {B ks : List Nat} {w w' : World} (h : Touch ks w w') (hB : ∀ g ∈ B, g < w.heap.size ∧ g ∉ ks) : Keeps B w w' := ⟨h.size, fun g hg => h.block g (hB g hg).1 (hB g hg).2⟩
theorem Sl.keeps {w w' : World} {e : TypeId} {sz n : Nat} {v : Value} {xs : List Value} (h : Sl w e sz v n xs) (hk : Keeps (own v) w w') : Sl w' e sz v n xs := by
  refine ⟨h.1, ?_⟩
  rcases h.2 with h2 | ⟨g, off, cap, rfl, h1, h2, hg⟩
  · exact .inl h2
  · refine .inr ⟨g, off, cap, rfl, h1, h2, fun h0 => ?_⟩
    obtain ⟨cur, hg, r⟩ := hg h0
    exact ⟨cur, (hk.2 g (by rw [own_some _ _ _ h0]; simp)).trans hg, r⟩
theorem Sl.word {w : World} {a : Option Addr} {n c : Nat} {l : List Nat} (h : Sl w 28 1 (.slice a n c) n (us l)) {k x : Nat} (hx : l[k]? = some x) :
    ∃ g o, a = Option.some ⟨g, o, none⟩ ∧ w.cell? ⟨g, o + k, none⟩ = some (.int .u64 (x : Int)) ∧ g < w.heap.size ∧ (∀ j, w.frozen? ⟨g, j, none⟩ = false) ∧ n ≤ c ∧ g ∈ own (.slice a n c) ∧ l.length = n := by
  have hk : k < l.length := (List.getElem?_eq_some_iff.1 hx).1
  have hl : l.length = n := by have := h.1; rw [us_len] at this; omega
  rcases h.cases with ⟨he, h0, _⟩ | ⟨g, off, cap, he, hnc, _, hg, hc, hf⟩
  · omega
  · simp at he
    obtain ⟨rfl, rfl⟩ := he
    refine ⟨g, off, rfl, ?_, hg (by omega), hf (by omega), hnc, by rw [own_some _ _ _ (by omega)]; simp, hl⟩
    rw [hc k (by omega)]
    unfold us
    rw [List.getElem?_map, hx]
    rfl
theorem Sl.set_word {w : World} {g o n c : Nat} {l : List Nat} (h : Sl w 28 1 (.slice (some ⟨g, o, none⟩) n c) n (us l)) (k x : Nat) : Sl (w.setCell ⟨g, o + k, none⟩ (.int .u64 (x : Int))) 28 1 (.slice (some ⟨g, o, none⟩) n c) n (us (l.set k x)) := by
  rw [← us_set]
  exact h.set k _
/-- What stays of the first j. -/
def kept (d : Nat → Bool) (ks : List Nat) (j : Nat) : List Nat := (ks.take j).filter fun x => !d x
theorem kept_yes {d : Nat → Bool} {ks : List Nat} {j x : Nat} (hx : ks[j]? = some x) (hd : d x = true) : kept d ks (j + 1) = kept d ks j := by
  unfold kept
  rw [List.take_add_one, hx, List.filter_append]
  simp [hd]
theorem kept_no {d : Nat → Bool} {ks : List Nat} {j x : Nat} (hx : ks[j]? = some x) (hd : d x = false) : kept d ks (j + 1) = kept d ks j ++ [x] := by
  unfold kept
  rw [List.take_add_one, hx, List.filter_append]
  simp [hd]
theorem kept_le (d : Nat → Bool) (ks : List Nat) (j : Nat) (hj : j ≤ ks.length) : (kept d ks j).length ≤ j := by
  unfold kept
  have := List.length_filter_le (fun x => !d x) (ks.take j)
  rw [List.length_take] at this
  omega
theorem kept_all {d : Nat → Bool} {ks : List Nat} {j : Nat} (h : ∀ y ∈ ks.take j, d y = false) : kept d ks j = ks.take j := by
  unfold kept
  exact List.filter_eq_self.2 (fun y hy => by rw [h y hy]; rfl)
/-- The list while it is struck: what stays, what has become free, what is still to come. -/
def Cur (d : Nat → Bool) (ks : List Nat) (j : Nat) (C : List Nat) : Prop := ∃ mid, C = kept d ks j ++ mid ++ ks.drop j ∧ (kept d ks j).length + mid.length = j ∧ 0 < mid.length
theorem Cur.get {d : Nat → Bool} {ks C : List Nat} {j x : Nat} (h : Cur d ks j C) (hx : ks[j]? = some x) : C[j]? = some x := by
  obtain ⟨mid, rfl, h1, h2⟩ := h
  rw [List.getElem?_append_right (by simp; omega), List.length_append, h1, Nat.sub_self, List.getElem?_drop]
  exact hx
theorem Cur.yes {d : Nat → Bool} {ks C : List Nat} {j x : Nat} (h : Cur d ks j C) (hx : ks[j]? = some x) (hd : d x = true) : Cur d ks (j + 1) C := by
  obtain ⟨mid, rfl, h1, h2⟩ := h
  have hl := (List.getElem?_eq_some_iff.1 hx)
  refine ⟨mid ++ [x], ?_, by rw [kept_yes hx hd]; simp; omega, by simp⟩
  rw [kept_yes hx hd, List.drop_eq_getElem_cons hl.1, hl.2]
  simp
theorem Cur.no {d : Nat → Bool} {ks C : List Nat} {j x : Nat} (h : Cur d ks j C) (hx : ks[j]? = some x) (hd : d x = false) : Cur d ks (j + 1) (C.set (kept d ks j).length x) := by
  obtain ⟨mid, rfl, h1, h2⟩ := h
  have hl := (List.getElem?_eq_some_iff.1 hx)
  cases mid with
  | nil => simp at h2
  | cons m mid =>
    refine ⟨mid ++ [x], ?_, by rw [kept_no hx hd]; simp at h1 ⊢; omega, by simp⟩
    rw [kept_no hx hd, List.drop_eq_getElem_cons hl.1, hl.2]
    simp
theorem Cur.start {d : Nat → Bool} {ks : List Nat} {k x : Nat} (hx : ks[k]? = some x) (hd : d x = true) (h : ∀ y ∈ ks.take k, d y = false) : Cur d ks (k + 1) ks := by
  have hl := (List.getElem?_eq_some_iff.1 hx)
  have hk := hl.1
  have e : kept d ks (k + 1) = ks.take k := by rw [kept_yes hx hd, kept_all h]
  refine ⟨[x], ?_, by rw [e]; simp; omega, by simp⟩
  rw [e]
  have := List.take_append_drop (k + 1) ks
  rw [List.take_add_one, hx] at this
  simpa using this.symm
theorem Cur.len {d : Nat → Bool} {ks C : List Nat} {j : Nat} (h : Cur d ks j C) (hj : j ≤ ks.length) : C.length = ks.length := by
  obtain ⟨mid, rfl, h1, h2⟩ := h
  simp
  omega
theorem Cur.lt {d : Nat → Bool} {ks C : List Nat} {j : Nat} (h : Cur d ks j C) : (kept d ks j).length < j := by
  obtain ⟨mid, rfl, h1, h2⟩ := h
  omega
theorem Cur.take {d : Nat → Bool} {ks C : List Nat} {j : Nat} (h : Cur d ks j C) : C.take (kept d ks j).length = kept d ks j := by
  obtain ⟨mid, rfl, h1, h2⟩ := h
  simp
end Go.Proofs.Ythnokfchebmjiaa
