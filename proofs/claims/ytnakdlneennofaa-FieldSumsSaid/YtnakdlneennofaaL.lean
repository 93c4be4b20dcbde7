/- The walk of the statement on sums of sizes and on what is found in two lists together. Conditions: the lists' cells are where the slices say. Printed by gen3l.py. -/
import Derived.Test.YtnakdlneennofaaH
namespace Go.Proofs.Ytnakdlneennofaa
open Go.RowKit

theorem cellsF_append (xs ys : List Fld) : cellsF (xs ++ ys) = cellsF xs ++ cellsF ys := by simp [cellsF]

/-- 'append(s, x...)' where s is the call's own list of fields and x one that came in, nil included. -/
theorem wpList_append_F {w : World} {ops : Array Oper} {rest : List Oper} {o : Oper} {a : Act} {Q : Exit → Act → World → Prop} (hgd : o.guard = none) (s x : Operand)
    (ho : o.op = .call { callee := .builtin .append, args := #[s, x], argTypes := #[28, 28] })
    (base : Nat) (v : Value) (ys : List Fld) (hs : a.eval s = v) (hown : w.ownsRow base 32 2 v ys.length (cellsF ys))
    (a1 : Option Addr) (cap1 : Nat) (xs : List Fld) (hx : a.eval x = .slice a1 xs.length cap1) (hf : IsF w a1 xs) (hnil : a1 = none → cap1 = 0)
    (h63 : ys.length + xs.length ≤ 1099511627776) (hbase : base ≤ w.heap.size)
    (h : ∀ v' w', w'.ownsRow base 32 2 v' (ys ++ xs).length (cellsF (ys ++ xs)) → w.grownBy w' v.ownBlock → wpList Try.prog ops Q rest (a.put o.dst v') w') : wpList Try.prog ops Q (o :: rest) a w := by
  obtain ⟨i0, hi, hz0, hz1, hz2⟩ := info_parts info32
  cases a1 with
  | none =>
    obtain rfl : xs = [] := by
      rcases hf with h | ⟨b, off, h, _⟩
      · exact h
      · cases h
    rw [hnil rfl] at hx
    refine wpList_append_own_none hgd s x 28 ho base 32 i0 2 Try.underlying28 hi v ys.length (cellsF ys) hs hown hx ?_
    refine h v w ?_ (World.grownBy.mk rfl rfl rfl (Nat.le_refl _) fun _ _ _ => rfl)
    rw [List.append_nil]; exact hown
  | some ad =>
    have hnews : ∀ j u, (cellsF xs)[j]? = some u → w.cell? (ad.add j) = some u := by
      rcases hf with rfl | ⟨b, off, h, _, hc⟩
      · intro j u hu; simp [cellsF] at hu
      · obtain rfl : ad = ⟨b, off, none⟩ := Option.some.inj h
        exact cellsF_mem w b off xs hc
    refine wpList_append_own _ hgd s x 28 ho base 32 i0 (.agg #[.string ByteArray.empty, .string ByteArray.empty]) 2 32 Try.underlying28 hi hz0 hz1 hz2 rfl (by decide) v ys.length (cellsF ys) hs hown ad xs.length cap1 (cellsF xs) hx (cellsF_len xs) hnews (cellsF_one xs) (by unfold maxLen; omega) (by omega) hbase ?_
    intro v' w' h1 h2 _
    rw [← cellsF_append, ← List.length_append] at h1
    exact h v' w' h1 h2

def shortF (xs : List Fld) : Prop := ∀ x ∈ xs, ((x.1.size : Int) + x.2.size) ≤ 100
theorem shortF_take {xs : List Fld} {k : Nat} (hk : k < xs.length) (h : shortF (xs.take k)) (hx : (((xs.getD k default).1.size : Int) + (xs.getD k default).2.size) ≤ 100) : shortF (xs.take (k + 1)) := by
  rw [List.take_succ_eq_append_getElem hk]
  intro x hm
  rcases List.mem_append.1 hm with h1 | h1
  · exact h x h1
  · obtain rfl := List.mem_singleton.1 h1
    simpa [List.getD_eq_getElem?_getD, hk] using hx
theorem shortF_size (xs : List Fld) (h : shortF xs) : sizeF xs ≤ 132 * xs.length := by
  induction xs with
  | nil => simp [sizeF]
  | cons x l ih =>
    have e1 : sizeF (x :: l) = sizeF [x] + sizeF l := sizeF_append [x] l
    have h1 := ih fun y hy => h y (List.mem_cons_of_mem _ hy)
    have h2 := h x (List.mem_cons_self ..)
    rw [e1, sizeF_one]
    simp; omega
theorem findF_append (xs ys : List Fld) (name : ByteArray) : findF (xs ++ ys) name = findF xs name ++ findF ys name := by simp [findF]
theorem findF_len (xs : List Fld) (name : ByteArray) : (findF xs name).length ≤ xs.length := by
  have := findF_take_len xs name xs.length
  rwa [List.take_length] at this
theorem same_self (xs ys : List Fld) : decide (xs = xs ++ ys) = ((ys.length : Int) == 0) := by
  rw [Bool.eq_iff_iff]
  simp

theorem sums_many (a1 a2 : Option Addr) (cap1 cap2 : Nat) (xs ys : List Fld) (name : ByteArray) (w : World) (h : 30 < xs.length ∨ (xs.length ≤ 30 ∧ 30 < ys.length)) :
    Calls Try.prog 6 #[.slice a1 xs.length cap1, .slice a2 ys.length cap2, .string name] w fun e w' => e = .returned (.bool true) ∧ Below w.heap.size w w' := by
  rcases h with h | ⟨h, h2⟩
  all_goals
    go_enter Try.func6, Try.ntmps6
    go_wp2_with fail
    refine (known_any _).mono ?_
    rintro e w1 ⟨rfl, hb⟩
    go_wp2_with fail
    go_ret
    exact ⟨rfl, hb⟩

set_option maxRecDepth 100000 in
set_option maxHeartbeats 1600000 in
theorem sums_walk (a1 a2 : Option Addr) (cap1 cap2 : Nat) (xs ys : List Fld) (name : ByteArray) (w : World) (hf : IsF w a1 xs) (hg : IsF w a2 ys) (hn1 : a1 = none → cap1 = 0) (hn2 : a2 = none → cap2 = 0)
    (hm1 : ∀ x ∈ xs, x.1.size ≤ 140737488355328 ∧ x.2.size ≤ 140737488355328) (hm2 : ∀ x ∈ ys, x.1.size ≤ 140737488355328 ∧ x.2.size ≤ 140737488355328) (hx30 : xs.length ≤ 30) (hy30 : ys.length ≤ 30) :
    Calls Try.prog 6 #[.slice a1 xs.length cap1, .slice a2 ys.length cap2, .string name] w fun e w' => e = .returned (.bool true) ∧ Below w.heap.size w w' := by
  have HF := Lib.hid hf
  have HG := Lib.hid hg
  have HM1 := Lib.hid hm1
  have HM2 := Lib.hid hm2
  have HN1 := Lib.hid hn1
  have HN2 := Lib.hid hn2
  have HB0 := Lib.hid (Below.refl w.heap.size w)
  clear hf hg hm1 hm2 hn1 hn2
  go_enter Try.func6, Try.ntmps6
  go_wp2_with fail
  refine (known_any _).mono ?_
  rintro e wk1 ⟨rfl, hb⟩
  have HF_1 := Lib.hid (HF.out.below hb)
  have HG_1 := Lib.hid (HG.out.below hb)
  have HB_1 := Lib.hid (HB0.out.trans (hb.mono HB0.out.size))
  clear hb
  have HBPa := Lib.hid HB_1.out
  go_wp2_with fail
  go_loopw [7] (fun i wr => ∃ k : Nat, k ≤ xs.length ∧ i = .int .i64 k ∧ shortF (xs.take k) ∧ Below wk1.heap.size wk1 wr) (fun i _ => xs.length - (intOf i).toNat)
  case atStart => exact ⟨0, Nat.zero_le _, rfl, by intro x hx; simp at hx, Below.refl _ _⟩
  case round =>
  obtain ⟨k, hk, rfl, hsh, hbel⟩ := hrel
  have HSHa := Lib.hid hsh
  have HBra := Lib.hid hbel
  clear hsh hbel
  by_cases hlt : k < xs.length
  · obtain ⟨b, off, had, hbl, hc⟩ : ∃ b off, a1 = some ⟨b, off, none⟩ ∧ b < wr.heap.size ∧ ∀ i, i < xs.length → wr.cell? ⟨b, off + i * 2, none⟩ = some (.string (xs.getD i default).1) ∧ wr.cell? ⟨b, off + i * 2 + 1, none⟩ = some (.string (xs.getD i default).2) := by
      rcases HF_1.out.below HBra.out with rfl | h
      · simp at hlt
      · exact h
    subst had
    have hmm := HM1.out (xs.getD k default) (by rw [List.getD_eq_getElem?_getD, List.getElem?_eq_getElem hlt]; exact List.getElem_mem _)
    have hst := fun h => shortF_take hlt HSHa.out h
    obtain ⟨hc1, hc2⟩ := hc k hlt
    obtain ⟨x, hx⟩ : ∃ x, xs.getD k default = x := ⟨_, rfl⟩
    rw [hx] at hc1 hc2 hmm hst
    obtain ⟨hmm1, hmm2⟩ := hmm
    have hk2 : (k : Int) < (xs.length : Int) := by omega
    clear hx hc
    by_cases hov : (100 : Int) < (x.1.size : Int) + x.2.size
    · clear hst
      go_wp2
      go_quiet (fail)
      go_wp2
      go_ret
      exact ⟨rfl, below_drewN (HBPa.out.trans (HBra.out.mono HBPa.out.size)) _⟩
    · have HS := Lib.hid (hst (by omega))
      clear hst
      go_wp2
      go_quiet (fail)
      go_wp2
      go_roundw
      case rel => exact ⟨k + 1, by omega, by go_num, HS.out, below_drewN HBra.out _⟩
      case measure => simp [intOf]; omega
  obtain rfl : xs.length = k := by omega
  have HSa := Lib.hid (by have h := HSHa.out; rwa [List.take_length] at h : shortF xs)
  have HBPa2 := Lib.hid (HBPa.out.trans (HBra.out.mono HBPa.out.size))
  have HFb := Lib.hid (HF_1.out.below HBra.out)
  have HGb := Lib.hid (HG_1.out.below HBra.out)
  rename World => wa
  have HBPb := Lib.hid HBPa2.out
  clear hlt HSHa
  go_wp2_with fail
  go_loopw [8] (fun i wr => ∃ k : Nat, k ≤ ys.length ∧ i = .int .i64 k ∧ shortF (ys.take k) ∧ Below wa.heap.size wa wr) (fun i _ => ys.length - (intOf i).toNat)
  case atStart => exact ⟨0, Nat.zero_le _, rfl, by intro x hx; simp at hx, Below.refl _ _⟩
  case round =>
  obtain ⟨k, hk, rfl, hsh, hbel⟩ := hrel
  have HSHb := Lib.hid hsh
  have HBrb := Lib.hid hbel
  clear hsh hbel
  by_cases hlt : k < ys.length
  · obtain ⟨b, off, had, hbl, hc⟩ : ∃ b off, a2 = some ⟨b, off, none⟩ ∧ b < wr.heap.size ∧ ∀ i, i < ys.length → wr.cell? ⟨b, off + i * 2, none⟩ = some (.string (ys.getD i default).1) ∧ wr.cell? ⟨b, off + i * 2 + 1, none⟩ = some (.string (ys.getD i default).2) := by
      rcases HGb.out.below HBrb.out with rfl | h
      · simp at hlt
      · exact h
    subst had
    have hmm := HM2.out (ys.getD k default) (by rw [List.getD_eq_getElem?_getD, List.getElem?_eq_getElem hlt]; exact List.getElem_mem _)
    have hst := fun h => shortF_take hlt HSHb.out h
    obtain ⟨hc1, hc2⟩ := hc k hlt
    obtain ⟨x, hx⟩ : ∃ x, ys.getD k default = x := ⟨_, rfl⟩
    rw [hx] at hc1 hc2 hmm hst
    obtain ⟨hmm1, hmm2⟩ := hmm
    have hk2 : (k : Int) < (ys.length : Int) := by omega
    clear hx hc
    by_cases hov : (100 : Int) < (x.1.size : Int) + x.2.size
    · clear hst
      go_wp2
      go_quiet (fail)
      go_wp2
      go_ret
      exact ⟨rfl, below_drewN (HBPb.out.trans (HBrb.out.mono HBPb.out.size)) _⟩
    · have HS := Lib.hid (hst (by omega))
      clear hst
      go_wp2
      go_quiet (fail)
      go_wp2
      go_roundw
      case rel => exact ⟨k + 1, by omega, by go_num, HS.out, below_drewN HBrb.out _⟩
      case measure => simp [intOf]; omega
  obtain rfl : ys.length = k := by omega
  have HSb := Lib.hid (by have h := HSHb.out; rwa [List.take_length] at h : shortF ys)
  have HBPb2 := Lib.hid (HBPb.out.trans (HBrb.out.mono HBPb.out.size))
  rename World => wb
  have HFc := Lib.hid (HFb.out.below HBrb.out)
  have HGc := Lib.hid (HGb.out.below HBrb.out)
  have HBPc := Lib.hid HBPb2.out
  clear hlt HSHb
  go_wp2_with (first | (at_builtin; refine wpList_append_F rfl (.const (.slice none 0 0)) (.tmp 64) rfl w.heap.size (.slice none 0 0) [] rfl (World.ownsRow_nil _ _ _ _) a1 cap1 xs rfl HFc.out HN1.out (by simp; omega) (by have := HBPc.out.size; omega) ?_; intro v1 wc hown1 hgrow1; have HBPd := Lib.hid (HBPc.out.grown hgrow1 HBPc.out.size (fun k hk => by simp [Value.ownBlock] at hk)); have HBc := Lib.hid ((Below.refl wb.heap.size wb).grown hgrow1 (Nat.le_refl _) (fun k hk => by simp [Value.ownBlock] at hk)); rw [List.nil_append] at hown1; have HO1 := Lib.hid hown1; clear hown1 hgrow1) | (at_builtin; refine wpList_append_F rfl (.tmp 65) (.tmp 66) rfl w.heap.size v1 xs rfl HO1.out a2 cap2 ys rfl (HGc.out.below HBc.out) HN2.out (by omega) (by have := HBPd.out.size; omega) ?_; intro v2 wd hown2 hgrow2; have HBPe := Lib.hid (HBPd.out.grown hgrow2 HBPd.out.size (fun k hk => (HO1.out.lt k hk).1)); obtain ⟨a3, cap3, hv, hs3⟩ := IsF_own hown2; subst hv; have HA := Lib.hid hs3; clear hown2 hgrow2 hs3))
  clear HF_1 HG_1 HB_1 HBPa HBra HBPa2 HFb HGb HBPb HBrb HBPb2 HFc HGc HBPc HBPd HBc HO1
  have hsx := sizeF_nonneg xs
  have hsy := sizeF_nonneg ys
  have hsx2 := shortF_size xs HSa.out
  have hsy2 := shortF_size ys HSb.out
  have hsxy := sizeF_append xs ys
  have hla := findF_len xs name
  have hlb := findF_len ys name
  have K1 := fun (w' : World) (hb : Below w.heap.size w w') => find_any a1 cap1 xs name w' (by omega) (HF.out.below hb)
  have K2 := fun (w' : World) (hb : Below w.heap.size w w') => find_any a2 cap2 ys name w' (by omega) (HG.out.below hb)
  have K3 := fun (w' : World) (h : IsF w' a3 (xs ++ ys)) => find_any a3 cap3 (xs ++ ys) name w' (by simp; omega) h
  rw [findF_append] at K3
  have K4 := fun (w' : World) (h : IsF w' a3 (xs ++ ys)) => size_any a3 cap3 (xs ++ ys) w' (by simp; omega) h (by omega)
  have K5 := fun (w' : World) (hb : Below w.heap.size w w') => size_any a1 cap1 xs w' (by omega) (HF.out.below hb) (by omega)
  have K6 := fun (w' : World) (hb : Below w.heap.size w w') => size_any a2 cap2 ys w' (by omega) (HG.out.below hb) (by omega)
  have K7 := fun (w' : World) (h : IsF w' a3 (xs ++ ys)) => same_any a3 a3 cap3 cap3 (xs ++ ys) (xs ++ ys) w' (by simp; omega) (by simp; omega) h h
  have K8 := fun (w' : World) (hb : Below w.heap.size w w') (h : IsF w' a3 (xs ++ ys)) => same_any a1 a3 cap1 cap3 xs (xs ++ ys) w' (by omega) (by simp; omega) (HF.out.below hb) h
  rw [same_self] at K8
  rw [hsxy] at K4
  simp only [decide_true] at K7
  obtain ⟨A, hA⟩ : ∃ A, findF xs name = A := ⟨_, rfl⟩
  obtain ⟨B, hB⟩ : ∃ B, findF ys name = B := ⟨_, rfl⟩
  obtain ⟨sx, hx⟩ : ∃ s, sizeF xs = s := ⟨_, rfl⟩
  obtain ⟨sy, hy⟩ : ∃ s, sizeF ys = s := ⟨_, rfl⟩
  rw [hA] at K1 K3 hla
  rw [hB] at K2 K3 hlb
  rw [hx] at K4 K5 hsx hsx2
  rw [hy] at K4 K6 hsy hsy2
  rw [hx, hy] at hsxy
  simp only [List.length_append] at K3 K4 K7 K8
  have hla2 : A.length ≤ 30 := by omega
  have hlb2 : B.length ≤ 30 := by omega
  have hsx3 : sx ≤ 4000 := by omega
  have hsy3 : sy ≤ 4000 := by omega
  have C1 := Lib.hid K1
  have C2 := Lib.hid K2
  have C3 := Lib.hid K3
  have C4 := Lib.hid K4
  have C5 := Lib.hid K5
  have C6 := Lib.hid K6
  have C7 := Lib.hid K7
  have C8 := Lib.hid K8
  clear K1 K2 K3 K4 K5 K6 K7 K8 hA hB hx hy hsxy hsx2 hsy2 hla hlb
  go_wp2_with fail
  refine (C1.out _ HBPe.out).mono ?_
  rintro e wk1 ⟨f1, g1, rfl, hs1, hb⟩
  have HA_1 := Lib.hid (HA.out.below hb)
  have HB_1 := Lib.hid (HBPe.out.trans (hb.mono HBPe.out.size))
  have HS1 := Lib.hid hs1
  clear hb hs1
  go_wp2_with fail
  refine (C2.out _ HB_1.out).mono ?_
  rintro e wk2 ⟨f2, g2, rfl, hs2, hb⟩
  have HA_2 := Lib.hid (HA_1.out.below hb)
  have HS1_2 := Lib.hid (HS1.out.below hb)
  have HB_2 := Lib.hid (HB_1.out.trans (hb.mono HB_1.out.size))
  have HS2 := Lib.hid hs2
  clear hb hs2
  go_wp2_with fail
  refine (C3.out _ HA_2.out).mono ?_
  rintro e wk3 ⟨f3, g3, rfl, hs3, hb⟩
  have HA_3 := Lib.hid (HA_2.out.below hb)
  have HS1_3 := Lib.hid (HS1_2.out.below hb)
  have HS2_3 := Lib.hid (HS2.out.below hb)
  have HB_3 := Lib.hid (HB_2.out.trans (hb.mono HB_2.out.size))
  have HS3 := Lib.hid hs3
  clear hb hs3
  go_wp2_with fail
  refine (C4.out _ HA_3.out).mono ?_
  rintro e wk4 ⟨rfl, hb⟩
  have HA_4 := Lib.hid (HA_3.out.below hb)
  have HS1_4 := Lib.hid (HS1_3.out.below hb)
  have HS2_4 := Lib.hid (HS2_3.out.below hb)
  have HS3_4 := Lib.hid (HS3.out.below hb)
  have HB_4 := Lib.hid (HB_3.out.trans (hb.mono HB_3.out.size))
  clear hb
  go_wp2_with fail
  refine (C5.out _ HB_4.out).mono ?_
  rintro e wk5 ⟨rfl, hb⟩
  have HA_5 := Lib.hid (HA_4.out.below hb)
  have HS1_5 := Lib.hid (HS1_4.out.below hb)
  have HS2_5 := Lib.hid (HS2_4.out.below hb)
  have HS3_5 := Lib.hid (HS3_4.out.below hb)
  have HB_5 := Lib.hid (HB_4.out.trans (hb.mono HB_4.out.size))
  clear hb
  go_wp2_with fail
  refine (C6.out _ HB_5.out).mono ?_
  rintro e wk6 ⟨rfl, hb⟩
  have HA_6 := Lib.hid (HA_5.out.below hb)
  have HS1_6 := Lib.hid (HS1_5.out.below hb)
  have HS2_6 := Lib.hid (HS2_5.out.below hb)
  have HS3_6 := Lib.hid (HS3_5.out.below hb)
  have HB_6 := Lib.hid (HB_5.out.trans (hb.mono HB_5.out.size))
  clear hb
  go_wp2_with fail
  go_loopw [13] (fun i wr => ∃ k : Nat, k ≤ A.length + B.length ∧ i = .int .i64 k ∧ Below wk6.heap.size wk6 wr) (fun i _ => A.length + B.length - (intOf i).toNat)
  case atStart => exact ⟨0, Nat.zero_le _, rfl, Below.refl _ _⟩
  case round =>
  obtain ⟨k, hk, rfl, hbel⟩ := hrel
  have HT1 := Lib.hid (HS1_6.out.below hbel)
  have HT2 := Lib.hid (HS2_6.out.below hbel)
  have HT3 := Lib.hid (HS3_6.out.below hbel)
  have HTA := Lib.hid (HA_6.out.below hbel)
  have HTB := Lib.hid (HB_6.out.trans (hbel.mono HB_6.out.size))
  have HBL := Lib.hid hbel
  clear hbel
  by_cases hlt : k < A.length + B.length
  · obtain ⟨b3, o3, hh3, _, hc3⟩ : ∃ b off, f3 = some ⟨b, off, none⟩ ∧ b < wr.heap.size ∧ ∀ i, i < (A ++ B).length → wr.cell? ⟨b, off + i, none⟩ = some (.string ((A ++ B).getD i default)) := by
      rcases HT3.out with h | h
      · rw [← List.length_append, h] at hlt; simp at hlt
      · exact h
    subst hh3
    have c3 := hc3 k (by rw [List.length_append]; exact hlt)
    clear hc3
    by_cases hka : k < A.length
    · obtain ⟨b1, o1, hh1, _, hc1⟩ : ∃ b off, f1 = some ⟨b, off, none⟩ ∧ b < wr.heap.size ∧ ∀ i, i < A.length → wr.cell? ⟨b, off + i, none⟩ = some (.string (A.getD i default)) := by
        rcases HT1.out with h | h
        · rw [h] at hka; simp at hka
        · exact h
      subst hh1
      have c1 := hc1 k hka
      clear hc1
      have he : (A ++ B).getD k default = A.getD k default := by
        rw [List.getD_eq_getElem?_getD, List.getD_eq_getElem?_getD, List.getElem?_append_left hka]
      rw [he] at c3
      generalize A.getD k default = z at c1 c3
      have i1 : (k : Int) < (A.length : Int) := by omega
      have i2 : (k : Int) < (A.length : Int) + (B.length : Int) := by omega
      have d1 : decide (k < A.length) = true := by simp [hka]
      have d2 : decide (A.length ≤ k) = false := by simp; omega
      clear he
      go_wp2
      go_quiet (fail)
      go_wp2
      go_roundw
      case rel => exact ⟨k + 1, by omega, by go_num, below_drewN HBL.out _⟩
      case measure => simp [intOf]; omega
    · obtain ⟨b1, o1, hh1, _, hc1⟩ : ∃ b off, f2 = some ⟨b, off, none⟩ ∧ b < wr.heap.size ∧ ∀ i, i < B.length → wr.cell? ⟨b, off + i, none⟩ = some (.string (B.getD i default)) := by
        rcases HT2.out with h | h
        · rw [h] at hlt; simp at hlt; omega
        · exact h
      subst hh1
      have c1 := hc1 (k - A.length) (by omega)
      clear hc1
      have he : (A ++ B).getD k default = B.getD (k - A.length) default := by
        rw [List.getD_eq_getElem?_getD, List.getD_eq_getElem?_getD, List.getElem?_append_right (by omega)]
      rw [he] at c3
      generalize B.getD (k - A.length) default = z at c1 c3
      have i1 : (A.length : Int) ≤ (k : Int) := by omega
      have i2 : (k : Int) < (A.length : Int) + (B.length : Int) := by omega
      have i3 : (k : Int) - (A.length : Int) < (B.length : Int) := by omega
      have i4 : (0 : Int) ≤ (k : Int) - (A.length : Int) := by omega
      have d1 : decide (k < A.length) = false := by simp; omega
      have d2 : decide (A.length ≤ k) = true := by simp; omega
      clear he
      go_wp2
      go_quiet (fail)
      go_wp2
      go_roundw
      case rel => exact ⟨k + 1, by omega, by go_num, below_drewN HBL.out _⟩
      case measure => simp [intOf]; omega
  obtain rfl : k = A.length + B.length := by omega
  go_wp2_with fail
  refine (C7.out _ HTA.out).mono ?_
  rintro e wk1 ⟨rfl, hb⟩
  have HTA_1 := Lib.hid (HTA.out.below hb)
  have HB_1 := Lib.hid (HTB.out.trans (hb.mono HTB.out.size))
  clear hb
  go_wp2_with fail
  refine (C8.out _ HB_1.out HTA_1.out).mono ?_
  rintro e wk2 ⟨rfl, hb⟩
  have HTA_2 := Lib.hid (HTA_1.out.below hb)
  have HB_2 := Lib.hid (HB_1.out.trans (hb.mono HB_1.out.size))
  clear hb
  go_wp2_with fail
  go_ret
  exact ⟨by simp, HB_2.out⟩
end Go.Proofs.Ytnakdlneennofaa
