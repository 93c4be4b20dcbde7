/- An append of zeros onto bytes of the call's own; the contract of the document's Write. Conditions: the half is in order; what is written keeps it so. -/
import Derived.Test.YtmidlielcioinaaHB
import Derived.Test.YtmidlielcioinaaRgB
namespace Go.Proofs.Ytmidlielcioinaa
open Go.RowKit

theorem zeros_list (z : Value) (k : Nat) : (Builtin.zeroCells #[z] k).toList = List.replicate k z := by
  unfold Builtin.zeroCells
  apply List.ext_getElem?
  intro i
  by_cases hi : i < k
  · simp [hi, Nat.mod_one]
  · simp [hi]
theorem bs_z0 (k : Nat) : bs (z0 k) = List.replicate k (.int .u8 0) := by simp [bs, z0]
theorem zeros_sl (w : World) (ty : TypeId) (v : Value) (n k : Nat) (xs : List Value) (h : Sl w 5 1 v n xs) (hk : n + k ≤ 100000) :
    ∃ a' c' w', (Builtin.append_ #[22, 3] ty #[v, .int .i64 (k : Int)]).run Try.prog w = .ok (.slice a' (n + k) c') w' ∧ Sl w' 5 1 (.slice a' (n + k) c') (n + k) (xs ++ bs (z0 k)) ∧ Touch (own v) w w' ∧ ∀ g ∈ own (.slice a' (n + k) c'), g ∈ own v ∨ w.heap.size ≤ g := by
  obtain ⟨i, hi, hz, hs, hb⟩ := info_parts info5
  have hw : IntKind.i64.wrap (k : Int) = k := by rw [IntKind.wrap_i64]; omega
  have hneg : ¬ ((k : Int) < 0) := by omega
  have h48i : ¬ (281474976710656 < (k : Int)) := by omega
  have hxl : xs.length = n := by simpa using h.1
  have hzl : (bs (z0 k)).length = k := by rw [bs_len, z0_len]
  have hw0 : IntKind.i64.wrap 0 = 0 := by decide
  by_cases h0 : k = 0
  · subst h0
    rw [show bs (z0 0) = [] from rfl, List.append_nil]
    rcases h.2 with ⟨rfl, rfl⟩ | ⟨g, off, cap, rfl, h2, h3, hg⟩
    · refine ⟨none, 0, w, ?_, h, Touch.refl _ _, fun g hg => .inl hg⟩
      simp [Builtin.append_, run_underlying under22, run_underlying under3, sizeOf, typeInfo, hi, hb, asInt, asIntOf, hw0]
    · refine ⟨some ⟨g, off, none⟩, cap, w, ?_, h, Touch.refl _ _, fun g hg => .inl hg⟩
      simp [Builtin.append_, run_underlying under22, run_underlying under3, sizeOf, typeInfo, hi, hb, asInt, asIntOf, hw0, h2, storeCells]
  · -- k is above nought
    have grow : ∀ (base : Option Addr) (cap : Nat), v = .slice base n cap → cap < n + k → (∀ j u, xs[j]? = some u → ∃ a, base = some a ∧ w.cell? (a.add j) = some u) → ∃ a' c' w', (Builtin.append_ #[22, 3] ty #[v, .int .i64 (k : Int)]).run Try.prog w = .ok (.slice a' (n + k) c') w' ∧ Sl w' 5 1 (.slice a' (n + k) c') (n + k) (xs ++ bs (z0 k)) ∧ Touch (own v) w w' ∧ ∀ g ∈ own (.slice a' (n + k) c'), g ∈ own v ∨ w.heap.size ≤ g := by
      intro base cap hv hroom hcell
      have hold : (Builtin.firstCells i.size n (.slice base n cap)).run Try.prog w.drew = .ok xs.toArray w.drew := by
        rw [hs]
        cases base with
        | none =>
          have : xs = [] := by
            cases xs with
            | nil => rfl
            | cons x l => obtain ⟨a, ha, _⟩ := hcell 0 x rfl; cases ha
          subst this
          rfl
        | some a =>
          refine run_firstCells_some w.drew 1 n a n cap xs (by omega) (fun q u hq => ?_)
          obtain ⟨a', ha, hc⟩ := hcell q u hq
          cases ha
          exact hc
      have hr := Lib.run_append_grow_zeros w 22 3 ty 5 i (.int .u8 0) .i64 .i64 under22 under3 hi hz base n cap xs hold k (by omega) (by omega) hroom (by omega) (by rw [hb]; omega) (growslice_fits hroom (by rw [hb]; omega))
      have hge := grownCap_ge w (n + k) cap 5
      have hle := grownCap_le_maxLen w (n + k) cap 5 (by unfold maxLen; omega)
      generalize grownCap w (n + k) cap 5 = G at hr hge hle
      subst hv
      refine ⟨some ⟨w.heap.size, 0, none⟩, G, _, hr, ⟨by simp [hxl, hzl], .inr ⟨w.heap.size, 0, G, rfl, hge, hle, fun _ => ⟨xs.toArray ++ Builtin.zeroCells (Value.int .u8 0).cells k ++ Builtin.zeroCells (Value.int .u8 0).cells (G - (n + k)), by show (w.heap.push _)[w.heap.size]? = _; simp, ?_, fun q hq => ?_⟩⟩⟩, ((Touch.refl [] w).drew.alloc _).mono (by simp), fun g hg => .inr (by rw [(mem_own hg).1]; exact Nat.le_refl _)⟩
      · have e1 := congrArg List.length (zeros_list (.int .u8 0) k)
        have e2 := congrArg List.length (zeros_list (.int .u8 0) (G - (n + k)))
        simp only [Array.length_toList, List.length_replicate] at e1 e2
        simp only [Value.cells, Array.size_append, List.size_toArray, e1, e2, hxl]
        omega
      · rw [Nat.zero_add, ← Array.getElem?_toList]
        simp only [Array.toList_append, Value.cells, zeros_list, bs_z0]
        rw [List.getElem?_append_left (by simp [hxl]; omega)]
    rcases h.2 with ⟨rfl, rfl⟩ | ⟨g, off, cap, rfl, h2, h3, hg⟩
    · refine grow none 0 rfl (by omega) (fun j u hj => ?_)
      obtain rfl : xs = [] := List.eq_nil_of_length_eq_zero hxl
      simp at hj
    · by_cases hroom : n + k ≤ cap
      · obtain ⟨cur, hcg, h4, h5⟩ := hg (by omega)
        have hst := run_storeCells_at Try.prog g (off + n) 5 (bs (z0 k)) 0 cur w hcg (by omega) (bs_one _)
        simp only [Nat.add_zero] at hst
        have hza : (Builtin.zeroCells (Value.int .u8 0).cells k).toList = bs (z0 k) := by rw [bs_z0]; exact zeros_list _ _
        refine ⟨some ⟨g, off, none⟩, cap, w.setRow g (cur.toList.take (off + n) ++ bs (z0 k) ++ cur.toList.drop (off + n + (bs (z0 k)).length)).toArray, ?_, ⟨by simp [hxl, hzl], .inr ⟨g, off, cap, rfl, hroom, h3, fun _ => ⟨_, setRow_heap w g cur _ 5 _ hcg, ?_, fun j hj => ?_⟩⟩⟩, ⟨rfl, rfl, rfl, by simp [World.setRow], fun q _ hq => setRow_other w g q _ (by rw [own_some _ _ _ (by omega)] at hq; simpa using hq)⟩, fun g' hg' => .inl ?_⟩
        · simp [Builtin.append_, run_underlying under22, run_underlying under3, sizeOf, typeInfo, hi, hs, hb, asInt, asIntOf, hw, hroom, hneg, h48i, h0, zeroValue, hz, Addr.add_lit, hza, hst]
        · simp only [List.size_toArray, List.length_append, List.length_take, List.length_drop, Array.length_toList, hzl]
          omega
        · by_cases hjn : j < n
          · rw [List.getElem?_toArray, List.append_assoc, List.getElem?_append_left (by simp; omega), List.getElem?_take, if_pos (by omega), List.getElem?_append_left (by omega)]
            simpa using h5 j (by omega)
          · rw [List.getElem?_toArray, List.append_assoc, List.getElem?_append_right (by simp; omega), List.getElem?_append_left (by simp [hzl]; omega), List.getElem?_append_right (by omega)]
            congr 1
            simp
            omega
        · rw [own_some _ _ _ (by omega)] at hg' ⊢
          exact hg'
      · refine grow (some ⟨g, off, none⟩) cap rfl (by omega) (fun j u hj => ⟨_, rfl, ?_⟩)
        have hjl : j < xs.length := (List.getElem?_eq_some_iff.1 hj).1
        obtain ⟨cur, hcg, h4, h5⟩ := hg (by omega)
        rw [Addr.add_lit, cell_of_row w g _ cur 5 _ hcg, h5 j (by omega)]
        exact hj

theorem hwrite_any (w : World) (p : Nat) (F : List Nat) (η : Hlf) (v : Value) (n : Nat) (bb : List Nat) (fin : Bool) (h : IsHlf w p F η) (hx : Rd w 1 v n (bs bb)) (hb : bb.length = n) (hl : η.b.length + n ≤ 50000) :
    Calls Try.prog 21 #[.pointer (some ⟨p, 0, none⟩), v, .bool fin] w fun e w' => e = .returned (.bool (!(η.fin || η.gone))) ∧ StepH w p F (writeH η bb fin) w' := by
  obtain ⟨i0, hi0, hz0, hz1, hz2⟩ := info_parts info5
  have HH := Lib.hid h
  obtain ⟨ab, az, cb, cz, h1, h2, h3, hF, d1, d2, d3, hok⟩ := h
  have HF := Lib.hid hF
  obtain ⟨av, cv, rfl⟩ := hx.form
  have HX := Lib.hid hx
  have H1 := Lib.hid h1
  have H2 := Lib.hid h2
  have HQ := Lib.hid (And.intro h3 (And.intro d1 (And.intro d2 (And.intro d3 hok))))
  have HBB := Lib.hid hb
  have c1 := h1.cell 1
  have c2 := h1.cell 2
  have c3 := h1.cell 3
  have c5 := h1.cell 5
  have hpl := h1.lt
  simp only [hcells, List.getElem?_cons_zero, List.getElem?_cons_succ] at c1 c2 c3 c5
  have hsl := hok.s
  clear hF hx h1 h2 h3 d1 d2 d3 hok hb
  cases he : η.fin with
  | true =>
    have HW : Hid (writeH η bb fin = η) := Lib.hid (by unfold writeH; rw [he]; rfl)
    rw [he] at c3
    clear he
    go_enter Try.func21, Try.ntmps21
    go_wp2_with fail
    go_ret
    exact ⟨ret_b (by simp), by rw [HW.out]; exact StepH.same HH.out (Touch.refl _ _)⟩
  | false =>
    cases hr : η.gone with
    | true =>
      have HW : Hid (writeH η bb fin = η) := Lib.hid (by unfold writeH; rw [he, hr]; rfl)
      rw [he] at c3
      rw [hr] at c5
      clear he hr
      go_enter Try.func21, Try.ntmps21
      go_wp2_with fail
      go_ret
      exact ⟨ret_b (by simp), by rw [HW.out]; exact StepH.same HH.out (Touch.refl _ _)⟩
    | false =>
      have HW : Hid (writeH η bb fin = { η with b := η.b ++ bb, s := η.s ++ List.replicate bb.length 0, fin := fin }) := Lib.hid (by unfold writeH; rw [he, hr]; rfl)
      have HRS := Lib.hid hr
      rw [he] at c3
      rw [hr] at c5
      have HLN := Lib.hid hsl
      clear he hr hsl
      go_enter Try.func21, Try.ntmps21
      go_upto_region 4 with (at_builtin; refine wpList_append_sl _ rfl _ _ 22 rfl 5 i0 _ 1 1 under22 hi0 hz0 hz1 hz2 rfl (by omega) (.slice ab η.b.length cb) η.b.length (bs η.b) rfl H2.out (.slice av n cv) n (bs bb) rfl HX.out (bs_one _) (by unfold maxLen; omega) (by omega) fun a3 c3 w3 k1 k2 k3 k4 => ?_; have HB3 := Lib.hid (H1.out.touch k2 HQ.out.2.1); have b1 := HB3.out.cell 1; have f1 := HB3.out.frozen 1; have bl := HB3.out.lt; simp only [hcells, List.getElem?_cons_zero, List.getElem?_cons_succ] at b1; have K1 := Lib.hid k1; have K2 := Lib.hid k2; have K3 := Lib.hid k3; clear k1 k2 k3 k4)
      obtain ⟨W, hW⟩ : ∃ W, W = w3.setCell ⟨p, 1, none⟩ (.slice a3 (η.b.length + n) c3) := ⟨_, rfl⟩
      rw [← hW]
      have HBW : Hid (IsBlk W p ((hcells η ab az cb cz).set 1 (.slice a3 (η.b.length + n) c3)) 68) := Lib.hid (by rw [hW]; exact HB3.out.set 1 _)
      have HTW : Hid (Touch [p] w3 W) := Lib.hid (by rw [hW]; exact (Touch.refl [p] w3).set (.inl (by simp)) _)
      have HSW : Hid (Sl W 5 1 (.slice az η.s.length cz) η.s.length (bs η.s)) := Lib.hid ((HQ.out.1.touch K2.out (fun g hg hm => HQ.out.2.2.2.1 g hm hg)).touch HTW.out (fun g hg hm => HQ.out.2.2.1 (by simp at hm; rw [← hm]; exact hg)))
      have d2 := HBW.out.cell 2
      have dl := HBW.out.lt
      simp [hcells] at d2
      clear hW b1 f1 bl c1 c2 c5 hpl
      go_wp2_with (at_builtin; obtain ⟨a4, c4, w4, hr4, m1, m2, m3⟩ := zeros_sl W 22 (.slice az η.s.length cz) η.s.length n (bs η.s) HSW.out (by have := HLN.out; omega); refine Lib.wpList_append_run _ rfl _ _ _ _ rfl _ _ rfl rfl _ _ hr4 ?_; have HB4 := Lib.hid (HBW.out.touch m2 HQ.out.2.2.1); have b2 := HB4.out.cell 2; have b3 := HB4.out.cell 3; have f2 := HB4.out.frozen 2; have f3 := HB4.out.frozen 3; have bl := HB4.out.lt; simp [hcells] at b2 b3; have M1 := Lib.hid m1; have M2 := Lib.hid m2; have M3 := Lib.hid m3; clear m1 m2 m3 hr4)
      go_ret
      refine ⟨ret_b (by simp), ?_⟩
      obtain ⟨h3, d1, d2, d3, hok⟩ := HQ.out
      have hTp : Touch [p] w4 ((w4.setCell ⟨p, 2, none⟩ (.slice a4 (η.s.length + n) c4)).setCell ⟨p, 3, none⟩ (.bool fin)) := ((Touch.refl [p] w4).set (.inl (by simp)) _).set (.inl (by simp)) _
      have hs3 := K2.out.size
      have hsW := HTW.out.size
      have hsz := M2.out.size
      have hno : ∀ g ∈ own (.slice a3 (η.b.length + n) c3), g ≠ p ∧ g ∉ own (.slice az η.s.length cz) ∧ g < w3.heap.size := fun g hg => by
        have hlt := K1.out.lt g hg
        rcases K3.out g hg with h | h
        · exact ⟨fun e => d1 (by rw [← e]; exact h), d3 g h, hlt⟩
        · exact ⟨by have := H1.out.lt; omega, fun hm => by have := h3.lt g hm; omega, hlt⟩
      have hno4 : ∀ g ∈ own (.slice a4 (η.s.length + n) c4), g ≠ p ∧ g ∉ own (.slice a3 (η.b.length + n) c3) := fun g hg => by
        rcases M3.out g hg with h | h
        · exact ⟨fun e => d2 (by rw [← e]; exact h), fun hm => (hno g hm).2.1 h⟩
        · exact ⟨by have := H1.out.lt; omega, fun hm => by have := (hno g hm).2.2; omega⟩
      have el : (η.b ++ bb).length = η.b.length + n := by rw [List.length_append, HBB.out]
      have el2 : (η.s ++ List.replicate bb.length 0).length = η.s.length + n := by rw [List.length_append, List.length_replicate, HBB.out]
      rw [HW.out, HF.out]
      refine ⟨p :: (own (.slice a3 (η.b.length + n) c3) ++ own (.slice a4 (η.s.length + n) c4)), ⟨a3, a4, c3, c4, ?_, ?_, ?_, ?_, ?_, ?_, ?_, ?_⟩, ?_, ?_⟩
      · show IsBlk _ p [_, .slice a3 (η.b ++ bb).length c3, .slice a4 (η.s ++ List.replicate bb.length 0).length c4, .bool fin, _, _, _] 68
        rw [el, el2]
        exact (HB4.out.set 2 _).set 3 _
      · show Sl _ 5 1 (.slice a3 (η.b ++ bb).length c3) (η.b ++ bb).length (bs (η.b ++ bb))
        rw [el, bs_append]
        exact ((K1.out.touch HTW.out (fun g hg hm => (hno g hg).1 (by simpa using hm))).touch M2.out (fun g hg => (hno g hg).2.1)).touch hTp (fun g hg hm => (hno g hg).1 (by simpa using hm))
      · show Sl _ 5 1 (.slice a4 (η.s ++ List.replicate bb.length 0).length c4) (η.s ++ List.replicate bb.length 0).length (bs (η.s ++ List.replicate bb.length 0))
        rw [el2, bs_append, HBB.out]
        exact M1.out.touch hTp (fun g hg hm => (hno4 g hg).1 (by simpa using hm))
      · show _ = p :: (own (.slice a3 (η.b ++ bb).length c3) ++ own (.slice a4 (η.s ++ List.replicate bb.length 0).length c4))
        rw [el, el2]
      · show p ∉ own (.slice a3 (η.b ++ bb).length c3)
        rw [el]
        exact fun hm => (hno p hm).1 rfl
      · show p ∉ own (.slice a4 (η.s ++ List.replicate bb.length 0).length c4)
        rw [el2]
        exact fun hm => (hno4 p hm).1 rfl
      · show ∀ g ∈ own (.slice a3 (η.b ++ bb).length c3), g ∉ own (.slice a4 (η.s ++ List.replicate bb.length 0).length c4)
        rw [el, el2]
        exact fun g hg hm => (hno4 g hm).2 hg
      · exact ⟨by show (η.s ++ List.replicate bb.length 0).length = (η.b ++ bb).length; rw [el, el2, hok.s], by show (η.b ++ bb).length ≤ _; omega, hok.max, hok.fin, fun x hx => by
          rcases List.mem_append.1 (show x ∈ η.s ++ List.replicate bb.length 0 from hx) with h | h
          · exact hok.lt x h
          · rw [(List.mem_replicate.1 h).2]; omega⟩
      · exact (((K2.out.mono (js := p :: (own (.slice ab η.b.length cb) ++ own (.slice az η.s.length cz))) (fun g hg => .inl (by simp [hg]))).trans HTW.out (fun g hg => .inl (by simp at hg; simp [hg]))).trans M2.out (fun g hg => .inl (by simp [hg]))).trans hTp (fun g hg => .inl (by simp at hg; simp [hg]))
      · intro g hg
        simp only [List.mem_cons, List.mem_append] at hg ⊢
        rcases hg with hg | hg | hg
        · exact .inl (.inl hg)
        · rcases K3.out g hg with h | h
          · exact .inl (.inr (.inl h))
          · exact .inr h
        · rcases M3.out g hg with h | h
          · exact .inl (.inr (.inr h))
          · exact .inr (by omega)
end Go.Proofs.Ytmidlielcioinaa
