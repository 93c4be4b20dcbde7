/- Laws of the built-in copy and clear on the call's own slices, of an append of zero values, and of a slice with a spare element. Conditions: none of their own. -/
import Derived.Test.YthnokfchebmjiaaT
import Derived.Laws.IdiomCopy
import Derived.Lib.AppendZerosOnto
import Derived.Lib.Overlaps
import Derived.Deep.RegionLaw
namespace Go.Proofs.Ythnokfchebmjiaa
open Go.RowKit
section
variable {P : Program} {w : World} {e : TypeId} {sz : Nat} {g off cap n : Nat} {xs : List Value}
/-- The parts of a slice that is not nil. -/
theorem Sl.at (h : Sl w e sz (.slice (some ⟨g, off, none⟩) n cap) n xs) : n ≤ cap ∧ cap ≤ maxLen ∧ (0 < cap → ∃ cur, w.heap[g]? = some (.cells cur e (0, 0)) ∧ off + cap * sz ≤ cur.size ∧ ∀ j, j < n * sz → cur[off + j]? = xs[j]?) := by
  rcases h.2 with ⟨h3, _⟩ | ⟨g', off', cap', h3, h1, h2, hg⟩
  · simp at h3
  · simp at h3
    obtain ⟨⟨rfl, rfl⟩, rfl⟩ := h3
    exact ⟨h1, h2, hg⟩
theorem Sl.there (h : Sl w e sz (.slice (some ⟨g, off, none⟩) n cap) n xs) (j : Nat) (hj : j < cap * sz) : (w.cell? ⟨g, off + j, none⟩).isSome = true ∧ w.frozen? ⟨g, off + j, none⟩ = false := by
  obtain ⟨cur, hg, h5, _⟩ := h.at.2.2 (pos_of_lt hj)
  refine ⟨?_, by simp [World.frozen?, hg]⟩
  rw [cell_of_row w g _ cur e _ hg, Array.getElem?_eq_getElem (by omega)]
  rfl
theorem Sl.shape (h : Sl w e sz (.slice (some ⟨g, off, none⟩) n cap) n xs) (h0 : 0 < cap) : ∃ k, w.shape? g = some (e, k) ∧ cap * sz ≤ k := by
  obtain ⟨cur, hg, h5, _⟩ := h.at.2.2 h0
  exact ⟨cur.size, by simp [World.shape?, hg], by omega⟩
theorem Sl.cool (h : Sl w e sz (.slice (some ⟨g, off, none⟩) n cap) n xs) (h0 : 0 < cap) (j : Nat) : w.frozen? ⟨g, j, none⟩ = false := by
  obtain ⟨cur, hg, h5, _⟩ := h.at.2.2 h0
  simp [World.frozen?, hg]
/-- The slice grown into its spare capacity: what lies there is some cells. -/
theorem Sl.more (h : Sl w e sz (.slice (some ⟨g, off, none⟩) n cap) n xs) (m : Nat) (hm : n + m ≤ cap) : ∃ zs, zs.length = m * sz ∧ Sl w e sz (.slice (some ⟨g, off, none⟩) (n + m) cap) (n + m) (xs ++ zs) := by
  obtain ⟨h1, h2, hg⟩ := h.at
  have hx := h.1
  have e1 : (n + m) * sz ≤ cap * sz := Nat.mul_le_mul_right _ hm
  rw [Nat.add_mul] at e1
  rcases Nat.eq_zero_or_pos cap with h0 | h0
  · obtain rfl : m = 0 := by omega
    exact ⟨[], by simp, by simpa using h⟩
  · obtain ⟨cur, hg', h5, h6⟩ := hg h0
    refine ⟨(cur.toList.drop (off + n * sz)).take (m * sz), by simp; omega, by simp [hx, Nat.add_mul]; omega, .inr ⟨g, off, cap, rfl, hm, h2, fun _ => ⟨cur, hg', h5, fun j hj => ?_⟩⟩⟩
    rw [Nat.add_mul] at hj
    by_cases hjn : j < n * sz
    · rw [List.getElem?_append_left (by omega)]
      exact h6 j hjn
    · rw [List.getElem?_append_right (by omega), List.getElem?_take, if_pos (by omega), List.getElem?_drop]
      simp
      congr 1
      omega
/-- copy into a part of a slice that the call owns. -/
theorem run_copy_sl (t t' ty : TypeId) {i : TypeInfo} (ht : P.underlying t = some (.slice e)) (hi : P.info? e = some i) (hsize : i.size = sz)
    (h : Sl w e sz (.slice (some ⟨g, off, none⟩) n cap) n xs) (k dl dc : Nat) {sv : Value} {m : Nat} {ys : List Value} (hs : Rd w sz sv m ys) (hm : m ≤ dl) (hk : k + m ≤ n) (h1 : ∀ u ∈ ys, u.oneCell' = true) :
    (Builtin.copy_ #[t, t'] ty #[.slice (some ⟨g, off + k * sz, none⟩) dl dc, sv]).run P w = .ok (goInt m) (w.setCells g (off + k * sz) ys) := by
  have hl := hs.lenOf (P := P)
  have hf := run_firstCells_rd (P := P) hs
  have hnc := h.at.1
  have e1 : (k + m) * sz ≤ cap * sz := Nat.mul_le_mul_right _ (by omega)
  rw [Nat.add_mul] at e1
  have hyl := hs.1
  have hst := run_storeCells_cells (P := P) g (off + k * sz) ys 0 w (fun j hj => by
      rw [Nat.add_zero, Nat.add_assoc]; exact (h.there _ (by omega)).1) (fun j hj => by
      rw [Nat.add_zero, Nat.add_assoc]; exact (h.there _ (by omega)).2) h1
  rw [Nat.add_zero] at hst
  have hmin : Nat.min m dl = m := Nat.min_eq_left hm
  simp [Builtin.copy_, run_underlying ht, hl, sizeOf, typeInfo, hi, hsize, hmin, hf, hst]
/-- The same where the source is longer than the place: as many as there is place for. -/
theorem run_copy_sl2 (t t' ty : TypeId) {i : TypeInfo} (ht : P.underlying t = some (.slice e)) (hi : P.info? e = some i) (hsize : i.size = sz)
    (h : Sl w e sz (.slice (some ⟨g, off, none⟩) n cap) n xs) (k dl dc : Nat) {b o m c : Nat} {ys : List Value} (hyl : ys.length = dl * sz) (hys : ∀ j, j < dl * sz → w.cell? ⟨b, o + j, none⟩ = ys[j]?) (hm : dl ≤ m) (hk : k + dl ≤ n) (h1 : ∀ u ∈ ys, u.oneCell' = true) :
    (Builtin.copy_ #[t, t'] ty #[.slice (some ⟨g, off + k * sz, none⟩) dl dc, .slice (some ⟨b, o, none⟩) m c]).run P w = .ok (goInt dl) (w.setCells g (off + k * sz) ys) := by
  have hf := run_firstCells_some (P := P) w sz dl ⟨b, o, none⟩ m c ys hyl fun j u hu => by
    have hj : j < ys.length := (List.getElem?_eq_some_iff.1 hu).1
    rw [Addr.add_lit, hys j (by omega)]
    exact hu
  have hnc := h.at.1
  have e1 : (k + dl) * sz ≤ cap * sz := Nat.mul_le_mul_right _ (by omega)
  rw [Nat.add_mul] at e1
  have hst := run_storeCells_cells (P := P) g (off + k * sz) ys 0 w (fun j hj => by
      rw [Nat.add_zero, Nat.add_assoc]; exact (h.there _ (by omega)).1) (fun j hj => by
      rw [Nat.add_zero, Nat.add_assoc]; exact (h.there _ (by omega)).2) h1
  rw [Nat.add_zero] at hst
  have hmin : Nat.min m dl = dl := Nat.min_eq_right hm
  simp [Builtin.copy_, run_underlying ht, Builtin.lenOf, sizeOf, typeInfo, hi, hsize, hmin, hf, hst]
/-- clear of a part of a slice that the call owns. -/
theorem run_clear_sl (t : TypeId) (z : Value) (ht : P.underlying t = some (.slice e)) (hv : ∀ w, (zeroValue e).run P w = .ok z w) (hzs : z.cells.size = sz) (hz1 : ∀ u ∈ z.cells, u.oneCell' = true)
    (h : Sl w e sz (.slice (some ⟨g, off, none⟩) n cap) n xs) (k m : Nat) (hk : k + m ≤ n) (ad : Addr) (had : 0 < m → ad = ⟨g, off + k * sz, none⟩) :
    ∃ zs, zs.length = m * sz ∧ ∀ ty dc, (Builtin.clear_ #[t] ty #[.slice (some ad) m dc]).run P w = .ok (.tuple #[]) (w.setCells g (off + k * sz) zs) := by
  rcases Nat.eq_zero_or_pos m with rfl | h0
  · exact ⟨[], by simp, fun ty dc => by simp [Builtin.clear_, run_underlying ht, World.setCells]⟩
  obtain rfl := had h0
  have hnc := h.at.1
  have e1 : (k + m) * sz ≤ cap * sz := Nat.mul_le_mul_right _ (by omega)
  rw [Nat.add_mul] at e1
  have hl : (Builtin.zeroCells z.cells m).toList.length = m * sz := by simp [Builtin.zeroCells, hzs]
  have hst := run_storeCells_cells (P := P) g (off + k * sz) (Builtin.zeroCells z.cells m).toList 0 w (fun j hj => by
      rw [Nat.add_zero, Nat.add_assoc]; exact (h.there _ (by omega)).1) (fun j hj => by
      rw [Nat.add_zero, Nat.add_assoc]; exact (h.there _ (by omega)).2) (fun u hu => by
      simp only [Builtin.zeroCells, Array.toList_map, List.mem_map] at hu
      obtain ⟨j, hj, rfl⟩ := hu
      simp at hj
      have hp : 0 < z.cells.size := by
        rcases Nat.eq_zero_or_pos z.cells.size with r | r
        · rw [r] at hj; simp at hj
        · exact r
      rw [getElem!_pos z.cells _ (Nat.mod_lt _ hp)]
      exact hz1 _ (Array.getElem_mem _))
  rw [Nat.add_zero] at hst
  obtain ⟨q, rfl⟩ : ∃ q, m = q + 1 := ⟨m - 1, by omega⟩
  refine ⟨_, hl, fun ty dc => ?_⟩
  simp [Builtin.clear_, run_underlying ht, hv, hst]
theorem wp_copy_run (w : World) {o : Oper} {a : Act} {K : Act → World → Prop} {Q : Exit → Act → World → Prop} (d s : Operand) (t t' : TypeId)
    (ho : o.op = .call { callee := .builtin .copy, args := #[d, s], argTypes := #[t, t'] }) (v u : Value) (hd : a.eval d = v) (hs : a.eval s = u) {v' : Value} {w' : World}
    (hr : (Builtin.copy_ #[t, t'] o.type #[v, u]).run P w = .ok v' w') (h : K (a.put o.dst v') w') : o.wp P a w K Q := by
  unfold Oper.wp execOp
  simp only [ho, resolve, invoke, builtin, Sem.run_bind, Sem.run_pure, Result.andThen_ok, List.map_toArray, List.map_cons, List.map_nil, hd, hs, hr]
  exact h
theorem wpList_copy_at (w : World) {ops : Array Oper} {rest : List Oper} {o : Oper} {a : Act} {Q : Exit → Act → World → Prop} (hgd : o.guard = none) (d s : Operand) (t t' : TypeId)
    (ho : o.op = .call { callee := .builtin .copy, args := #[d, s], argTypes := #[t, t'] }) (v u : Value) (hd : a.eval d = v) (hs : a.eval s = u) {v' : Value} {w' : World}
    (hr : (Builtin.copy_ #[t, t'] o.type #[v, u]).run P w = .ok v' w') (h : wpList P ops Q rest (a.put o.dst v') w') : wpList P ops Q (o :: rest) a w :=
  wpList_plain hgd fun _ hK => wp_copy_run w d s t t' ho v u hd hs hr (hK _ _ h)
theorem step_copy_at {ops : Array Oper} {o : Oper} {a : Act} {w : World} {K : Act → World → Prop} {Q : Exit → Act → World → Prop} {E : Prop}
    (hg : o.guard = none) (d x : Operand) (t t' : TypeId) (hop : o.op = Op.call { callee := Callee.builtin Builtin.copy, args := #[d, x], argTypes := #[t, t'] })
    (v u : Value) (hd : a.eval d = v) (hx : a.eval x = u) {v' : Value} {w' : World} (hr : (Builtin.copy_ #[t, t'] o.type #[v, u]).run P w = .ok v' w') (hK : K (a.put o.dst v') w') :
    if Region.wanted o (yielded ops a.tmps) = true then Oper.wp P o a w K Q else E := by
  have hw : Region.wanted o (yielded ops a.tmps) = true := by simp [Region.wanted, hg]
  rw [if_pos hw]
  exact wp_copy_run w d x t t' hop v u hd hx hr hK
/-- append(s, make(..., k)...) where there is no room: a new slice. -/
theorem run_zeros_sl (t tn ty : TypeId) {i : TypeInfo} {z : Value} (ht : P.underlying t = some (.slice e)) (htn : P.underlying tn = some (.int .i64)) (hi : P.info? e = some i) (hz : i.zero = some z)
    (hsize : i.size = sz) (hzs : z.cells.size = sz) (hsz : 0 < sz) (h : Sl w e sz (.slice (some ⟨g, off, none⟩) n cap) n xs) (j k : Nat) (hj : j ≤ n) (h0 : 0 < k) (hg : cap < j + k) (hw : j + k ≤ maxLen) (hb : (j + k) * i.bytes ≤ 140737488355328) :
    ∃ c zs w', (Builtin.append_ #[t, tn] ty #[.slice (some ⟨g, off, none⟩) j cap, .int .i64 (k : Int)]).run P w = .ok (.slice (some ⟨w.heap.size, 0, none⟩) (j + k) c) w' ∧
      zs.length = k * sz ∧ j + k ≤ c ∧ c ≤ maxLen ∧ Sl w' e sz (.slice (some ⟨w.heap.size, 0, none⟩) (j + k) c) (j + k) (xs.take (j * sz) ++ zs) ∧ Touch [] w w' := by
  have hxl := h.1
  have e1 : j * sz ≤ n * sz := Nat.mul_le_mul_right _ hj
  obtain ⟨hnc, hcm, hcur⟩ := h.at
  have hold : (Builtin.firstCells i.size j (.slice (some ⟨g, off, none⟩) j cap)).run P w.drew = .ok (xs.take (j * sz)).toArray w.drew := by
    rw [hsize]
    refine run_firstCells_some w.drew sz j ⟨g, off, none⟩ j cap (xs.take (j * sz)) (by simp; omega) (fun q u hq => ?_)
    rw [List.getElem?_take] at hq
    split at hq
    · next hlt =>
      obtain ⟨cur, hg', _, h6⟩ := hcur (by have := pos_of_lt hlt; omega)
      rw [Addr.add_lit]
      show w.cell? _ = _
      rw [cell_of_row w g _ cur e _ hg', h6 q (by omega)]
      exact hq
    · cases hq
  unfold maxLen at hw
  have hkb : k * i.bytes ≤ 140737488355328 := Nat.le_trans (Nat.mul_le_mul_right _ (by omega)) hb
  have hr := Lib.run_append_grow_zeros w t tn ty e i z .i64 .i64 ht htn hi hz (some ⟨g, off, none⟩) j cap (xs.take (j * sz)) hold k h0 (by omega) hg (by omega) (by omega) (growslice_fits hg hb)
  have hge := grownCap_ge w (j + k) cap e
  have hle := grownCap_le_maxLen w (j + k) cap e (by unfold maxLen; omega)
  generalize grownCap w (j + k) cap e = G at hr hge hle
  have hzl : (Builtin.zeroCells z.cells k).size = k * sz := by simp [Builtin.zeroCells, hzs]
  have hzl' : (Builtin.zeroCells z.cells (G - (j + k))).size = (G - (j + k)) * sz := by simp [Builtin.zeroCells, hzs]
  have e2 : G * sz = j * sz + k * sz + (G - (j + k)) * sz := by rw [← Nat.add_mul, ← Nat.add_mul]; congr 1; omega
  refine ⟨G, (Builtin.zeroCells z.cells k).toList, _, hr, by simpa using hzl, hge, hle, ⟨?_, .inr ⟨w.heap.size, 0, G, rfl, hge, hle, fun _ => ⟨(xs.take (j * sz)).toArray ++ Builtin.zeroCells z.cells k ++ Builtin.zeroCells z.cells (G - (j + k)), ?_, ?_, fun q hq => ?_⟩⟩⟩, (Touch.refl [] w).drew.alloc _⟩
  · simp [hzl, Nat.add_mul]; omega
  · show (w.heap.push _)[w.heap.size]? = _
    simp
  · simp [hzl, hzl']
    omega
  · rw [Nat.add_mul] at hq
    rw [Nat.zero_add, ← Array.getElem?_toList]
    simp only [Array.toList_append]
    rw [List.getElem?_append_left (by simp [hzl]; omega)]
end
end Go.Proofs.Ythnokfchebmjiaa
