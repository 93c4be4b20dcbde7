/- A map from numbers to fields; the walk of the statement on absolute numbers. Conditions: the slice can be read. -/
import Derived.Test.YtfkmcbkhodppmaaX
namespace Go.Proofs.Ytfkmcbkhodppmaa
open Go.RowKit Go.Maps Go.WideMaps Go.ChangeShapes
set_option linter.unusedVariables false

theorem und39 : Try.prog.underlying 39 = some (.map 34 26) := by kernel_rfl
theorem law34 : Keyed Try.prog 34 := int_keyed Try.underlying34
theorem zero26 (w : World) : (zeroValue 26).run Try.prog w = .ok (.agg #[.string ByteArray.empty, .string ByteArray.empty]) w := by kernel_rfl
def encF (x : Fld) : DataW Unit := .agg [.lit (.string x.1.data.toList), .lit (.string x.2.data.toList)]
def rdF (v : Value) : Option (DataW Unit × List MemPlace) := match v with
  | .agg vs => match vs.toList with
    | [.string a, .string b] => some (encF (a, b), [])
    | _ => none
  | _ => none
theorem rdF_mk (x : Fld) : rdF (keyW x) = some (encF x, []) := rfl
theorem dl_inj {a b : ByteArray} (h : a.data.toList = b.data.toList) : a = b := by
  obtain ⟨⟨a⟩⟩ := a
  obtain ⟨⟨b⟩⟩ := b
  simp at h
  rw [h]
theorem rdF_inv {v : Value} {x : Fld} {ps : List MemPlace} (h : rdF v = some (encF x, ps)) : v = keyW x := by
  unfold rdF at h
  split at h
  · split at h
    · rename_i _ arr _ a b hv
      simp [encF] at h
      obtain ⟨⟨h1, h2⟩, _⟩ := h
      obtain rfl : a = x.1 := dl_inj (by rw [h1])
      obtain rfl : b = x.2 := dl_inj (by rw [h2])
      have : arr = #[Value.string x.1, Value.string x.2] := by
        apply Array.ext'
        rw [hv]
      rw [this]
      rfl
    · simp at h
  · simp at h

def updM (f : Int → Option Fld) (k : Int) (v : Option Fld) : Int → Option Fld := fun x => if x = k then v else f x
/-- Block b is a map of at most n entries that holds just what f says. -/
def IsM (w : World) (b n : Nat) (f : Int → Option Fld) : Prop :=
  ∃ D : DataW Unit, w.ownsMap Try.prog 34 rdF b n D ∧ IsMap D ∧ ∀ k, (Lit.int .u64 k).wf = true → Maps.has D (.int .u64 k) = (f k).isSome ∧ ∀ v, f k = some v → ∀ z, D.atKey (.int .u64 k) z = encF v
section
variable {w w' : World} {b n : Nat} {f : Int → Option Fld}
theorem IsM.made (w : World) : IsM (w.alloc (.map #[] 0)) w.heap.size 0 fun _ => none :=
  ⟨.map [], World.ownsMap_made _ _ _ _, isMap_empty, fun x _ => ⟨rfl, fun v h => by cases h⟩⟩
theorem IsM.lt (h : IsM w b n f) : b < w.heap.size := let ⟨_, h1, _⟩ := h; h1.lt
theorem IsM.touch {ks : List Nat} (h : IsM w b n f) (hk : Touch ks w w') (hn : b ∉ ks) : IsM w' b n f := by
  have hl := h.lt
  obtain ⟨D, ⟨es, clock, h0, h1⟩, h2, h3⟩ := h
  exact ⟨D, ⟨es, clock, (hk.block b hl hn).trans h0, h1⟩, h2, h3⟩
theorem IsM.store (h : IsM w b n f) (k : Int) (hk : (Lit.int .u64 k).wf = true) (v : Fld) (hn : n < maxLen) :
    ∃ w', (Instr.mapUpdate 39 (.map (some b)) (.int .u64 k) (keyW v)).run Try.prog w = .ok () w' ∧ IsM w' b (n + 1) (updM f k (some v)) ∧ Touch [b] w w' := by
  obtain ⟨D, h1, h2, h3⟩ := h
  have hl := keyOf_int_mk Try.underlying34 hk
  obtain ⟨w', hr, ho, hg⟩ := h1.update law34 und39 hn hl (rdF_mk v)
  refine ⟨w', hr, ⟨_, ho, h2.put _ _, fun y hy => ?_⟩, Touch.of_grown (row := some b) hg⟩
  by_cases e : y = k
  · subst e
    refine ⟨by simp [updM, has_put_same h2 (law34.key hl)], fun v' hv' z => ?_⟩
    simp [updM] at hv'
    subst hv'
    exact atKey_put_same h2 (law34.key hl) _ _
  · have hne : (Lit.int .u64 y) ≠ Lit.int .u64 k := fun h => e (by injection h)
    refine ⟨by rw [has_put_other hne]; simp [updM, e, (h3 y hy).1], fun v' hv' z => ?_⟩
    simp [updM, e] at hv'
    rw [atKey_put_other hne]
    exact (h3 y hy).2 v' hv' z
theorem IsM.look (h : IsM w b n f) (k : Int) (hk : (Lit.int .u64 k).wf = true) (v : Fld) (hv : f k = some v) : (Instr.lookup 39 (.map (some b)) (.int .u64 k) false).run Try.prog w = .ok (keyW v) w := by
  obtain ⟨D, h1, h2, h3⟩ := h
  have hl := keyOf_int_mk Try.underlying34 hk
  obtain ⟨v', ps, hr, hat⟩ := h1.lookup law34 und39 (zero26 w) (rdF_mk (ByteArray.empty, ByteArray.empty)) hl
  rw [(h3 k hk).2 v hv] at hat
  rw [hr, rdF_inv hat]
end

/-- The entries of a table, by their absolute numbers. -/
def Stood (s : TS) (f : Int → Option Fld) : Prop := ∀ i x, s.L[i]? = some x → f ((s.first + i : Nat) : Int) = some x
theorem stood_yes {s : TS} {f : Int → Option Fld} (h : Stood s f) (hl : s.L.length ≤ s.cnt) (cap : Nat) (x : Fld) (hx : sz x ≤ cap) : Stood (add1 cap s x) (updM f s.cnt (some x)) := by
  rw [add1_yes _ _ _ hx]
  intro i y hy
  have hn := fitN_le s.L ((cap : Int) - (sz x : Int))
  have hfl := fitL_len s.L ((cap : Int) - (sz x : Int))
  simp only at hy
  have hfirst : TS.first ⟨fitL s.L ((cap : Int) - (sz x : Int)) ++ [x], s.cnt + 1⟩ = s.first + fitN s.L ((cap : Int) - (sz x : Int)) := by
    simp only [TS.first, List.length_append, List.length_singleton]
    omega
  rw [hfirst]
  unfold updM
  by_cases hi : i < (fitL s.L ((cap : Int) - (sz x : Int))).length
  · rw [List.getElem?_append_left hi] at hy
    have hne : ¬ (((s.first + fitN s.L ((cap : Int) - (sz x : Int)) + i : Nat) : Int) = (s.cnt : Int)) := by unfold TS.first; omega
    rw [if_neg hne]
    unfold fitL at hy
    rw [List.getElem?_drop] at hy
    have := h _ _ hy
    rw [← Nat.add_assoc] at this
    exact this
  · rw [List.getElem?_append_right (by omega)] at hy
    have hi2 : i - (fitL s.L ((cap : Int) - (sz x : Int))).length = 0 := by
      by_cases h0 : i - (fitL s.L ((cap : Int) - (sz x : Int))).length = 0
      · exact h0
      · rw [List.getElem?_eq_none (by simp; omega)] at hy
        cases hy
    rw [hi2] at hy
    simp at hy
    subst hy
    rw [if_pos (by unfold TS.first; omega)]
theorem stood_nil (c : Nat) (f : Int → Option Fld) : Stood ⟨[], c⟩ f := fun i x hx => by simp at hx

/-- A table and a map of the call's own. -/
def AtM (w wr : World) (t mb : Nat) (s : TS) (cap n : Nat) (f : Int → Option Fld) : Prop :=
  ∃ F, IsTab wr t F s cap ∧ (∀ g ∈ F, w.heap.size ≤ g) ∧ Touch [] w wr ∧ s.ok cap ∧ IsM wr mb n f ∧ mb ∉ F ∧ w.heap.size ≤ mb
section
variable {w wr wr' : World} {t mb cap n : Nat} {s : TS} {f : Int → Option Fld}
theorem AtM.keep (h : AtM w wr t mb s cap n f) (hk : Touch [] wr wr') : AtM w wr' t mb s cap n f :=
  let ⟨F, h1, h2, h3, h4, h5, h6⟩ := h
  ⟨F, h1.keep hk, h2, h3.trans hk (by simp), h4, h5.touch hk (by simp), h6⟩
theorem AtM.touch (h : AtM w wr t mb s cap n f) : Touch [] w wr := let ⟨_, _, _, h3, _⟩ := h; h3
theorem AtM.at5 (h : AtM w wr t mb s cap n f) : At5 w wr t s cap := let ⟨F, h1, h2, h3, h4, _⟩ := h; ⟨F, h1, h2, h3, h4⟩
theorem AtM.map (h : AtM w wr t mb s cap n f) : IsM wr mb n f := let ⟨_, _, _, _, _, h5, _⟩ := h; h5
theorem AtM.add (h : AtM w wr t mb s cap n f) (hk : Touch [] wr wr') (x : Value) (l : List Fld) (hx : Rd wr' 2 x l.length (cf l)) (hxo : ∀ g ∈ own x, g < w.heap.size ∨ wr.heap.size ≤ g) (hcap : cap ≤ 549755813888)
    (hcn : s.cnt + l.length ≤ 549755813888) (hl : ∀ y ∈ l, sz y ≤ 549755813888) :
    Calls Try.prog 12 #[.pointer (some ⟨t, 0, none⟩), x] wr' fun e w' => e = .returned (.int .i64 (goneA cap s l)) ∧ AtM w w' t mb (addA cap s l) cap n f := by
  obtain ⟨F, h1, h2, h3, h4, h5, h6, h7⟩ := h
  refine (add_any (h1.keep hk) x l hx (fun g hg hm => ?_) h4 hcap hcn hl).mono ?_
  · have := h2 g hm
    have := h1.lt g hm
    rcases hxo g hg with h | h <;> omega
  · rintro e w' ⟨rfl, F', k1, k2, k3⟩
    have hs1 := hk.size
    have hs2 := h3.size
    have hm := h5.lt
    refine ⟨rfl, F', k1, fun g hg => ?_, (h3.trans hk (by simp)).trans k2 (fun g hg => .inr (h2 g hg)), (ok_addA l h4).1, (h5.touch hk (by simp)).touch k2 h6, fun hg => ?_, h7⟩
    · rcases k3 g hg with h | h
      · exact h2 g h
      · omega
    · rcases k3 mb hg with h | h
      · exact h6 h
      · omega
theorem AtM.stored {n' : Nat} {f' : Int → Option Fld} (h : AtM w wr t mb s cap n f) (k1 : IsM wr' mb n' f') (k2 : Touch [mb] wr wr') : AtM w wr' t mb s cap n' f' := by
  obtain ⟨F, h1, h2, h3, h4, h5, h6, h7⟩ := h
  exact ⟨F, h1.touch k2 (fun g hg hm => by simp at hm; exact h6 (hm ▸ hg)), h2, h3.trans k2 (by simp [h7]), h4, k1, h6, h7⟩
theorem AtM.at_ (h : AtM w wr t mb s cap n f) (hc : s.cnt ≤ 1099511627776) (a : Int) (ha : 0 ≤ a) (o : Option Fld) (ho : s.at_ a.toNat = o) :
    Calls Try.prog 19 #[.pointer (some ⟨t, 0, none⟩), .int .u64 a] wr fun e w' => e = .returned (fopt o) ∧ Touch [] wr w' := let ⟨_, h1, _⟩ := h; at_any h1 hc a ha o ho
end
theorem wpList_store_M (w : World) {ops : Array Oper} {rest : List Oper} {o : Oper} {a : Act} {Q : Exit → Act → World → Prop}
    (hg : o.guard = none) (m x v : Operand) (hop : o.op = Op.mapUpdate 39 m x v) (b n : Nat) (f : Int → Option Fld)
    (hm : a.eval m = .map (some b)) (h : IsM w b n f) (hn : n < maxLen) (k : Int) (val : Fld) (hx : a.eval x = .int .u64 k) (hv : a.eval v = keyW val) (hk : (Lit.int .u64 k).wf = true)
    (hK : ∀ w', IsM w' b (n + 1) (updM f k (some val)) → Touch [b] w w' → wpList Try.prog ops Q rest (a.put o.dst undef) w') :
    wpList Try.prog ops Q (o :: rest) a w := by
  refine wpList_plain hg fun K' hK' => ?_
  obtain ⟨w', hrun, r1, r2⟩ := h.store k hk val hn
  unfold Oper.wp
  simp [execOp, hop, hm, hx, hv, hrun, Result.andThen]
  exact hK' _ _ (hK w' r1 r2)

set_option maxRecDepth 100000 in
theorem absolute_many (n : Int) (a : Option Addr) (c : Nat) (l : List Fld) (w : World) (h : 30 < l.length) :
    Calls Try.prog 5 #[.int .u16 n, .slice a l.length c] w fun e w' => e = .returned (.bool true) ∧ Below w.heap.size w w' := by
  go_enter Try.func5, Try.ntmps5
  go_wp2_with fail
  refine (known_any _).mono ?_
  rintro e w1 ⟨rfl, hb⟩
  go_wp2_with fail
  go_ret
  exact ⟨rfl, hb.below (Nat.le_refl _) (by simp)⟩
theorem up_natF (c : Nat) : up (c : Int) = c := by simp [up]
theorem rd_one {w : World} {g o c : Nat} {x1 x2 : ByteArray} (h1 : w.cell? ⟨g, o, none⟩ = some (.string x1)) (h2 : w.cell? ⟨g, o + 1, none⟩ = some (.string x2)) (hg : g < w.heap.size) (hc : 1 ≤ c) : Rd w 2 (.slice (some ⟨g, o, none⟩) 1 c) 1 (cf [(x1, x2)]) :=
  ⟨rfl, .inr ⟨g, o, c, rfl, hc, fun _ => hg, fun j hj => by
    rcases (show j = 0 ∨ j = 1 by omega) with rfl | rfl
    · exact h1
    · exact h2⟩⟩
theorem refSize_one {w : World} {x : Value} {y : Fld} (hx : Rd w 2 x 1 (cf [y])) (n : Nat) (hn : sz y = n) (hl : n ≤ 1099511627776) :
    Calls Try.prog 17 #[x] w fun e w' => e = .returned (.int .i64 n) ∧ Touch [] w w' := by
  have e : szL [y] = n := by simp [szL, hn]
  refine (refSize_any w x [y] hx (by omega) (by simp)).mono ?_
  rintro e' w' ⟨rfl, m, rfl⟩
  exact ⟨by rw [e], (Touch.refl [] _).drewN m⟩

/-- Each absolute number below the count: what At tells of it. -/
theorem at_cases {s : TS} {f : Int → Option Fld} (h : Stood s f) (a : Nat) (ha : a < s.cnt) (hl : s.L.length ≤ s.cnt) : (a < s.first ∧ s.at_ a = none) ∨ (s.first ≤ a ∧ ∃ y, s.at_ a = some y ∧ f (a : Int) = some y) := by
  unfold TS.at_
  by_cases h1 : a < s.first
  · exact .inl ⟨h1, by rw [if_pos (.inl h1)]⟩
  · refine .inr ⟨by omega, ?_⟩
    rw [if_neg (by omega)]
    have hlt : a - s.first < s.L.length := by unfold TS.first at *; omega
    refine ⟨s.L[a - s.first], List.getElem?_eq_getElem hlt, ?_⟩
    have := h _ _ (List.getElem?_eq_getElem hlt)
    rw [show s.first + (a - s.first) = a from by omega] at this
    exact this

set_option maxRecDepth 100000 in
set_option maxHeartbeats 8000000 in
theorem absolute_walk (n : Int) (a : Option Addr) (c1 : Nat) (l : List Fld) (w : World) (hn : 0 ≤ n ∧ n ≤ 65535) (hx : Rd w 2 (.slice a l.length c1) l.length (cf l)) (hm : ∀ x ∈ l, x.1.size ≤ 140737488355328 ∧ x.2.size ≤ 140737488355328) (hl : l.length ≤ 30) (hlc : l.length ≤ c1) :
    Calls Try.prog 5 #[.int .u16 n, .slice a l.length c1] w fun e w' => e = .returned (.bool true) ∧ Below w.heap.size w w' := by
  have hmm := @run_makeMap Try.prog
  have hn0 := hn.1
  obtain ⟨cap, hcp⟩ : ∃ cap : Nat, n % 600 = (cap : Int) := ⟨(n % 600).toNat, by omega⟩
  have hcap : cap ≤ 600 := by omega
  have HX := Lib.hid hx
  have HM := Lib.hid hm
  clear hn hx hm
  go_enter Try.func5, Try.ntmps5
  go_wp2_with fail
  refine (known_any _).mono ?_
  rintro e w1 ⟨rfl, hb⟩
  have T1 := Lib.hid hb
  clear hb
  go_wp2_with fail
  refine (new_at (cap : Int) cap (up_natF cap) w w1 T1.out).mono ?_
  rintro e w2 ⟨t, rfl, F, h1, h2, h3, h4⟩
  have hmb := h3.size
  have hAM : AtM w (w2.alloc (.map #[] 0)) t w2.heap.size ⟨[], 0⟩ cap 0 (fun _ => none) :=
    ⟨F, h1.keep ((Touch.refl [] _).alloc _), h2, h3.alloc _, h4, IsM.made w2, fun hm => Nat.lt_irrefl _ (h1.lt _ hm), hmb⟩
  have AM := Lib.hid hAM
  clear h1 h2 h3 h4 hmb hAM
  go_wp2_with fail
  generalize w2.alloc (.map #[] 0) = w3 at *
  generalize w2.heap.size = mb at *
  go_loopw [7] (fun i wr => ∃ (k : Nat) (s : TS) (f : Int → Option Fld), k ≤ l.length ∧ i = .int .i64 (k : Int) ∧ AtM w wr t mb s cap k f ∧ Stood s f ∧ s.cnt ≤ k) (fun i _ => l.length - (intOf i).toNat)
  case atStart => exact ⟨0, _, _, by omega, rfl, AM.out, stood_nil _ _, Nat.le_refl _⟩
  case round =>
    obtain ⟨k, s, f, hk, rfl, hA, hS, hcn⟩ := hrel
    have HA := Lib.hid hA
    have HS := Lib.hid hS
    clear hA hS
    by_cases hlt : k < l.length
    · obtain ⟨x, hxk⟩ : ∃ x, l[k]? = some x := ⟨_, List.getElem?_eq_getElem hlt⟩
      obtain ⟨g, o, rfl⟩ := HX.out.some (by omega)
      obtain ⟨e0, e1, heg⟩ := HX.out.two rfl k x hxk
      have hxm := HM.out x (List.mem_of_getElem? hxk)
      have HE := Lib.hid (And.intro e0 (And.intro e1 heg))
      have hT := HA.out.touch
      have d0 := hT.cell e0 (by simp)
      have d1 := hT.cell e1 (by simp)
      have hg : g < wr.heap.size := Nat.lt_of_lt_of_le heg hT.size
      obtain ⟨x1, x2⟩ := x
      simp only at d0 d1 hxm
      have hk0 : (0 : Int) ≤ (k : Int) := by omega
      have hk1 : (k : Int) < (l.length : Int) := by omega
      clear hxk e0 e1 heg hT
      by_cases hbig : x1.size + x2.size ≤ 100
      · have hbb : decide (100 < x1.size + x2.size) = false := by simpa using hbig
        obtain ⟨n1, hn1⟩ : ∃ n1, sz (x1, x2) = n1 := ⟨_, rfl⟩
        have hn1b : n1 ≤ 132 := by rw [← hn1]; simp only [sz]; omega
        have HN1 := Lib.hid hn1
        have hLc : s.L.length ≤ s.cnt := by
          obtain ⟨_, _, _, _, h4, _⟩ := HA.out
          exact h4.1
        have HLC := Lib.hid hLc
        obtain ⟨cn, hcne⟩ : ∃ cn, s.cnt = cn := ⟨_, rfl⟩
        rw [hcne] at hcn
        have HCNE := Lib.hid hcne
        clear hn1 hLc hcne
        go_wp2_with fail
        go_quiet (fail)
        have HA := Lib.hid (HA.out.keep ((Touch.refl [] _).drewN nq))
        have d0 : (wr.drewN nq).cell? ⟨g, o + k * 2, none⟩ = some (.string x1) := d0
        have d1 : (wr.drewN nq).cell? ⟨g, o + k * 2 + 1, none⟩ = some (.string x2) := d1
        have hg : g < (wr.drewN nq).heap.size := hg
        generalize wr.drewN nq = wq at *
        go_wp2_with fail
        refine HA.out.at5.count.mono ?_
        rw [HCNE.out]
        rintro e w4 ⟨rfl, rfl⟩
        go_wp2_with fail
        refine (HA.out.add ((Touch.refl [] _).alloc _) _ [(x1, x2)] (rd_new wq [(x1, x2)] rfl rfl) (by intro g hg; have := (mem_own hg).1; simp at this; omega) (by omega) (by rw [HCNE.out]; simp; omega) (by intro y hy; simp only [List.mem_cons, List.not_mem_nil, or_false] at hy; subst hy; rw [HN1.out]; omega)).mono ?_
        rw [show addA cap s [(x1, x2)] = add1 cap s (x1, x2) from rfl]
        rintro e w4 ⟨rfl, hA⟩
        have HA4 := Lib.hid hA
        have hT := hA.touch
        have d0 := hT.cell HE.out.1 (by simp)
        have d1 := hT.cell HE.out.2.1 (by simp)
        have hg : g < w4.heap.size := Nat.lt_of_lt_of_le HE.out.2.2 hT.size
        have hR := rd_one (c := c1 - k) d0 d1 hg (by omega)
        have HR := Lib.hid hR
        have hck : ¬ c1 = k := by omega
        have hk2 : (k : Int) + 1 ≤ (l.length : Int) := by omega
        have hk3 : (k : Int) + 1 ≤ (c1 : Int) := by omega
        have hk4 : ((k : Int) + 1).toNat = k + 1 := by omega
        clear hA hT hR
        go_wp2_with fail
        refine (refSize_one HR.out n1 HN1.out (by omega)).mono ?_
        rintro e w5 ⟨rfl, hT⟩
        have HA5 := Lib.hid (HA4.out.keep hT)
        have hT5 := HA5.out.touch
        have d0 := hT5.cell HE.out.1 (by simp)
        have d1 := hT5.cell HE.out.2.1 (by simp)
        have hg : g < w5.heap.size := Nat.lt_of_lt_of_le HE.out.2.2 hT5.size
        clear hT hT5 HR HA4
        obtain ⟨fi, hfi⟩ : ∃ fi, (add1 cap s (x1, x2)).first = fi := ⟨_, rfl⟩
        obtain ⟨ln, hln⟩ : ∃ ln, (add1 cap s (x1, x2)).L.length = ln := ⟨_, rfl⟩
        have hok5 : (add1 cap s (x1, x2)).L.length ≤ (add1 cap s (x1, x2)).cnt := by
          obtain ⟨_, _, _, _, h4, _⟩ := HA5.out
          exact h4.1
        have HLL := Lib.hid hok5
        have HLE := Lib.hid hln
        have HFI := Lib.hid hfi
        go_wp2_with fail
        refine HA5.out.at5.capOf.mono ?_
        rintro e w6 ⟨rfl, rfl⟩
        by_cases hle : n1 ≤ cap
        · have hadd := add1_yes cap s (x1, x2) (by rw [HN1.out]; exact hle)
          have hce : (add1 cap s (x1, x2)).cnt = cn + 1 := by rw [hadd, ← HCNE.out]
          have HCE := Lib.hid hce
          have HST := Lib.hid (show Stood (add1 cap s (x1, x2)) (updM f (cn : Int) (some (x1, x2))) by
            have := stood_yes HS.out HLC.out cap (x1, x2) (by rw [HN1.out]; exact hle)
            rw [HCNE.out] at this
            exact this)
          have hcf : (cn : Int) + 1 - (ln : Int) = (fi : Int) := by rw [← hfi, ← hln]; unfold TS.first; rw [hce] at hok5 ⊢; omega
          have hlnb : (ln : Int) ≤ (cn : Int) + 1 := by rw [← hln]; rw [hce] at hok5; omega
          clear hadd hce hfi hln hok5
          go_wp2_with fail
          refine HA5.out.at5.count.mono ?_
          rw [HCE.out]
          rintro e w6 ⟨rfl, rfl⟩
          go_wp2_with (at_mapUpdate; refine wpList_store_M _ rfl (.tmp 65) (.tmp 66) (.tmp 70) rfl mb k f rfl HA5.out.map (by unfold maxLen; omega) (cn : Int) (x1, x2) rfl rfl (WalkArith.wf_u64 (by omega)) ?_; intro w6 k1 k2; have HA6 := Lib.hid (HA5.out.stored k1 k2); clear k1 k2)
          clear d0 d1 hg
          obtain ⟨wo, rfl⟩ : ∃ wo : World, wo = w6 := ⟨_, rfl⟩
          go_loopw [9] (fun i wr => ∃ q : Nat, q ≤ (cn + 1) ∧ i = .int .u64 (q : Int) ∧ AtM w wr t mb (add1 cap s (x1, x2)) cap (k + 1) (updM f (cn : Int) (some (x1, x2)))) (fun i _ => (cn + 1) - (intOf i).toNat)
          case atStart => exact ⟨0, by omega, rfl, HA6.out⟩
          case round =>
            obtain ⟨q, hq, rfl, hA⟩ := hrel
            have HAQ := Lib.hid hA
            clear hA
            by_cases hql : q < (cn + 1)
            · go_wp2_with fail
              refine HAQ.out.at5.count.mono ?_
              rw [HCE.out]
              rintro e w6 ⟨rfl, rfl⟩
              rcases at_cases HST.out q (by rw [HCE.out]; exact hql) HLL.out with ⟨hlo, hno⟩ | ⟨hhi, y, hy, hfy⟩
              · have C19 := Lib.hid (HAQ.out.at_ (by rw [HCE.out]; omega) (q : Int) (by omega) none (by simpa using hno))
                have hdec : decide (fi ≤ q) = false := by have := HFI.out; simp; omega
                clear hlo hno
                go_wp2_with fail
                refine C19.out.mono ?_
                rw [show fopt none = .tuple #[.agg #[.string ByteArray.empty, .string ByteArray.empty], .bool false] from rfl]
                rintro e w7 ⟨rfl, hT⟩
                have HA7 := Lib.hid (HAQ.out.keep hT)
                clear hT
                go_wp2_with fail
                refine (HA7.out.keep (by (repeat (first | exact Touch.refl _ _ | refine Touch.drewN ?_ _ | refine Touch.drew ?_ | refine Touch.alloc ?_ _)))).at5.count.mono ?_
                rw [HCE.out]
                rintro e w8 ⟨rfl, rfl⟩
                go_wp2_with fail
                refine (HA7.out.keep (by (repeat (first | exact Touch.refl _ _ | refine Touch.drewN ?_ _ | refine Touch.drew ?_ | refine Touch.alloc ?_ _)))).at5.len.mono ?_
                rw [HLE.out]
                rintro e w8 ⟨rfl, rfl⟩
                go_wp2_with fail
                go_roundw
                case rel => exact ⟨q + 1, by omega, by go_num, HA7.out.keep (by (repeat (first | exact Touch.refl _ _ | refine Touch.drewN ?_ _ | refine Touch.drew ?_ | refine Touch.alloc ?_ _)))⟩
                case measure => simp [intOf]; omega
              · have C19 := Lib.hid (HAQ.out.at_ (by rw [HCE.out]; omega) (q : Int) (by omega) (some y) (by simpa using hy))
                have hdec : decide (fi ≤ q) = true := by have := HFI.out; simp; omega
                obtain ⟨y1, y2⟩ := y
                have hey : ∀ w, (Op.equalIn 10000 26 (.agg #[.string y1, .string y2]) (.agg #[.string y1, .string y2])).run Try.prog w = .ok true w := fun w => by have := run_eqF (y1, y2) (y1, y2) w; simpa using this
                have HFY := Lib.hid hfy
                clear hhi hy hfy
                go_wp2_with fail
                refine C19.out.mono ?_
                rw [show fopt (some (y1, y2)) = .tuple #[.agg #[.string y1, .string y2], .bool true] from rfl]
                rintro e w7 ⟨rfl, hT⟩
                have HA7 := Lib.hid (HAQ.out.keep hT)
                have hlk : (Instr.lookup 39 (.map (some mb)) (.int .u64 (q : Int)) false).run Try.prog (w7.alloc (.cells #[.string y1, .string y2] 26)) = .ok (.agg #[.string y1, .string y2]) (w7.alloc (.cells #[.string y1, .string y2] 26)) := (HA7.out.keep ((Touch.refl [] _).alloc _)).map.look (q : Int) (WalkArith.wf_u64 (by omega)) (y1, y2) HFY.out
                clear hT
                go_wp2_with fail
                refine (HA7.out.keep (by (repeat (first | exact Touch.refl _ _ | refine Touch.drewN ?_ _ | refine Touch.drew ?_ | refine Touch.alloc ?_ _)))).at5.count.mono ?_
                rw [HCE.out]
                rintro e w8 ⟨rfl, rfl⟩
                go_wp2_with fail
                refine (HA7.out.keep (by (repeat (first | exact Touch.refl _ _ | refine Touch.drewN ?_ _ | refine Touch.drew ?_ | refine Touch.alloc ?_ _)))).at5.len.mono ?_
                rw [HLE.out]
                rintro e w8 ⟨rfl, rfl⟩
                go_wp2_with fail
                go_roundw
                case rel => exact ⟨q + 1, by omega, by go_num, HA7.out.keep (by (repeat (first | exact Touch.refl _ _ | refine Touch.drewN ?_ _ | refine Touch.drew ?_ | refine Touch.alloc ?_ _)))⟩
                case measure => simp [intOf]; omega
            · obtain rfl : q = (cn + 1) := by omega
              go_wp2_with fail
              refine HAQ.out.at5.count.mono ?_
              rw [HCE.out]
              rintro e w6 ⟨rfl, rfl⟩
              go_wp2_with fail
              go_roundw
              case rel => exact ⟨k + 1, _, _, by omega, by go_num, HAQ.out, HST.out, by rw [HCE.out]; omega⟩
              case measure => simp [intOf]; omega
        · have hadd := add1_no cap s (x1, x2) (by rw [HN1.out]; exact hle)
          have hle2 : cap < n1 := by omega
          have hce : (add1 cap s (x1, x2)).cnt = cn := by rw [hadd, ← HCNE.out]
          have HCE := Lib.hid hce
          have HST := Lib.hid (show Stood (add1 cap s (x1, x2)) f by rw [hadd]; exact stood_nil _ _)
          have hl0 : ln = 0 := by rw [← hln, hadd]; rfl
          have hcf : (cn : Int) - (ln : Int) = (fi : Int) := by rw [← hfi, ← hln]; unfold TS.first; rw [hce] at hok5 ⊢; omega
          have HL0 := Lib.hid hl0
          have HA5 := Lib.hid (show AtM w w5 t mb (add1 cap s (x1, x2)) cap (k + 1) f by
            obtain ⟨F, h1, h2, h3, h4, ⟨D, h5, h5'⟩, h6⟩ := HA5.out
            exact ⟨F, h1, h2, h3, h4, ⟨D, h5.mono (by omega), h5'⟩, h6⟩)
          clear hadd hce hfi hln hok5 d0 d1 hg
          subst hl0
          go_wp2_with fail
          refine HA5.out.at5.count.mono ?_
          rw [HCE.out]
          rintro e w6 ⟨rfl, rfl⟩
          go_wp2_with fail
          refine HA5.out.at5.len.mono ?_
          rw [HLE.out]
          rintro e w6 ⟨rfl, rfl⟩
          go_wp2_with fail
          obtain ⟨wo, rfl⟩ : ∃ wo : World, wo = w5 := ⟨_, rfl⟩
          go_loopw [9] (fun i wr => ∃ q : Nat, q ≤ cn ∧ i = .int .u64 (q : Int) ∧ AtM w wr t mb (add1 cap s (x1, x2)) cap (k + 1) f) (fun i _ => cn - (intOf i).toNat)
          case atStart => exact ⟨0, by omega, rfl, HA5.out⟩
          case round =>
            obtain ⟨q, hq, rfl, hA⟩ := hrel
            have HAQ := Lib.hid hA
            clear hA
            by_cases hql : q < cn
            · go_wp2_with fail
              refine HAQ.out.at5.count.mono ?_
              rw [HCE.out]
              rintro e w6 ⟨rfl, rfl⟩
              rcases at_cases HST.out q (by rw [HCE.out]; exact hql) HLL.out with ⟨hlo, hno⟩ | ⟨hhi, y, hy, hfy⟩
              · have C19 := Lib.hid (HAQ.out.at_ (by rw [HCE.out]; omega) (q : Int) (by omega) none (by simpa using hno))
                have hdec : decide (fi ≤ q) = false := by have := HFI.out; simp; omega
                clear hlo hno
                go_wp2_with fail
                refine C19.out.mono ?_
                rw [show fopt none = .tuple #[.agg #[.string ByteArray.empty, .string ByteArray.empty], .bool false] from rfl]
                rintro e w7 ⟨rfl, hT⟩
                have HA7 := Lib.hid (HAQ.out.keep hT)
                clear hT
                go_wp2_with fail
                refine (HA7.out.keep (by (repeat (first | exact Touch.refl _ _ | refine Touch.drewN ?_ _ | refine Touch.drew ?_ | refine Touch.alloc ?_ _)))).at5.count.mono ?_
                rw [HCE.out]
                rintro e w8 ⟨rfl, rfl⟩
                go_wp2_with fail
                refine (HA7.out.keep (by (repeat (first | exact Touch.refl _ _ | refine Touch.drewN ?_ _ | refine Touch.drew ?_ | refine Touch.alloc ?_ _)))).at5.len.mono ?_
                rw [HLE.out]
                rintro e w8 ⟨rfl, rfl⟩
                go_wp2_with fail
                go_roundw
                case rel => exact ⟨q + 1, by omega, by go_num, HA7.out.keep (by (repeat (first | exact Touch.refl _ _ | refine Touch.drewN ?_ _ | refine Touch.drew ?_ | refine Touch.alloc ?_ _)))⟩
                case measure => simp [intOf]; omega
              · exfalso
                have := HFI.out
                omega
            · obtain rfl : q = cn := by omega
              go_wp2_with fail
              refine HAQ.out.at5.count.mono ?_
              rw [HCE.out]
              rintro e w6 ⟨rfl, rfl⟩
              go_wp2_with fail
              go_roundw
              case rel => exact ⟨k + 1, _, _, by omega, by go_num, HAQ.out, HST.out, by rw [HCE.out]; omega⟩
              case measure => simp [intOf]; omega
      · have hbb : decide (100 < x1.size + x2.size) = true := by simp; omega
        go_wp2_with fail
        go_quiet (fail)
        go_wp2_with fail
        go_ret
        exact ⟨rfl, (HA.out.touch.drewN nq).below (Nat.le_refl _) (by simp)⟩
    · obtain rfl : k = l.length := by omega
      go_wp2_with fail
      go_ret
      exact ⟨rfl, HA.out.touch.below (Nat.le_refl _) (by simp)⟩
end Go.Proofs.Ytfkmcbkhodppmaa
