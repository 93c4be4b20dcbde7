/- The contract of the program's table's fit. Conditions: the sizes are no more than 2^40. -/
import Derived.Test.YtfkmcbkhodppmaaE
import Derived.Deep.RegionLaw
namespace Go.Proofs.Ytfkmcbkhodppmaa
open Go.RowKit Go.Maps
set_option linter.unusedVariables false

/-- The parts of the program's table. -/
def TabP (w : World) (t bw bn : Nat) (v : Value) (sv cnt cap : Nat) (L : List Fld) (fw : Fld → Option Int) (fn : ByteArray → Option Int) : Prop :=
  IsBlk w t [v, .int .u64 cnt, .int .i64 cap, .int .i64 sv, .map (some bw), .map (some bn)] 56 ∧ Sl w 26 2 v L.length (cf L) ∧ IsW w bw cnt fw ∧ IsN w bn cnt fn
def Apart (t bw bn : Nat) (v : Value) : Prop := t ≠ bw ∧ t ≠ bn ∧ bw ≠ bn ∧ t ∉ own v ∧ bw ∉ own v ∧ bn ∉ own v
section
variable {w w' : World} {t bw bn sv cnt cap p : Nat} {v v' : Value} {L M : List Fld} {fw fw' : Fld → Option Int} {fn fn' : ByteArray → Option Int} {ks : List Nat} {y : List Value} {ty : TypeId}
theorem TabP.touch (h : TabP w t bw bn v sv cnt cap L fw fn) (hk : Touch ks w w') (hn : ∀ g ∈ t :: bw :: bn :: own v, g ∉ ks) : TabP w' t bw bn v sv cnt cap L fw fn :=
  ⟨h.1.touch hk (hn _ (by simp)), h.2.1.touch hk (fun g hg => hn g (by simp [hg])), h.2.2.1.touch hk (hn _ (by simp)), h.2.2.2.touch hk (hn _ (by simp))⟩
theorem TabP.keep (h : TabP w t bw bn v sv cnt cap L fw fn) (hk : Touch [] w w') : TabP w' t bw bn v sv cnt cap L fw fn := h.touch hk (by simp)
theorem TabP.goneW (h : TabP w t bw bn v sv cnt cap L fw fn) (ha : Apart t bw bn v) (hk : Touch [bw] w w') (h2 : IsW w' bw cnt fw') : TabP w' t bw bn v sv cnt cap L fw' fn := by
  obtain ⟨a1, a2, a3, a4, a5, a6⟩ := ha
  exact ⟨h.1.touch hk (by simpa using a1), h.2.1.touch hk (fun g hg hm => by simp at hm; exact a5 (hm ▸ hg)), h2, h.2.2.2.touch hk (by simpa using Ne.symm a3)⟩
theorem TabP.goneN (h : TabP w t bw bn v sv cnt cap L fw fn) (ha : Apart t bw bn v) (hk : Touch [bn] w w') (h2 : IsN w' bn cnt fn') : TabP w' t bw bn v sv cnt cap L fw fn' := by
  obtain ⟨a1, a2, a3, a4, a5, a6⟩ := ha
  exact ⟨h.1.touch hk (by simpa using a2), h.2.1.touch hk (fun g hg hm => by simp at hm; exact a6 (hm ▸ hg)), h.2.2.1.touch hk (by simpa using a3), h2⟩
theorem TabP.cut (h : TabP w t bw bn v sv cnt cap L fw fn) (ha : Apart t bw bn v) (ha2 : ∀ g ∈ own v', g ∈ own v) (h2 : Sl w 26 2 v' M.length (cf M)) : TabP (w.setCell ⟨t, 0, none⟩ v') t bw bn v' sv cnt cap M fw fn ∧ Apart t bw bn v' := by
  obtain ⟨a1, a2, a3, a4, a5, a6⟩ := ha
  have hT : Touch [t] w (w.setCell ⟨t, 0, none⟩ v') := (Touch.refl [t] _).set (p := ⟨t, 0, none⟩) (.inl (by simp)) _
  exact ⟨⟨h.1.set 0 _, h2.touch hT (fun g hg hm => by simp at hm; exact a4 (hm ▸ ha2 g hg)), h.2.2.1.touch hT (by simpa using Ne.symm a1), h.2.2.2.touch hT (by simpa using Ne.symm a2)⟩, a1, a2, a3, fun hm => a4 (ha2 _ hm), fun hm => a5 (ha2 _ hm), fun hm => a6 (ha2 _ hm)⟩
theorem TabP.sized (h : TabP w t bw bn v sv cnt cap L fw fn) (ha : Apart t bw bn v) (s2 : Nat) : TabP (w.setCell ⟨t, 3, none⟩ (.int .i64 s2)) t bw bn v s2 cnt cap L fw fn := by
  obtain ⟨a1, a2, a3, a4, a5, a6⟩ := ha
  have hT : Touch [t] w (w.setCell ⟨t, 3, none⟩ (.int .i64 s2)) := (Touch.refl [t] _).set (p := ⟨t, 3, none⟩) (.inl (by simp)) _
  exact ⟨h.1.set 3 _, h.2.1.touch hT (fun g hg hm => by simp at hm; exact a4 (hm ▸ hg)), h.2.2.1.touch hT (by simpa using Ne.symm a1), h.2.2.2.touch hT (by simpa using Ne.symm a2)⟩
end
theorem IsTab.parts {w : World} {t cap : Nat} {F : List Nat} {s : TS} (h : IsTab w t F s cap) : ∃ a c bw bn, TabP w t bw bn (.slice a s.L.length c) (szL s.L) s.cnt cap s.L (whole s.L s.first) (names s.L s.first) ∧ F = t :: bw :: bn :: own (.slice a s.L.length c) ∧ Apart t bw bn (.slice a s.L.length c) ∧ s.L.length ≤ s.cnt := by
  obtain ⟨a, c, bw, bn, h1, h2, h3, h4, rfl, h5, h6⟩ := h
  exact ⟨a, c, bw, bn, ⟨h1, h2, h3, h4⟩, rfl, h5, h6⟩
theorem TabP.tab {w : World} {t bw bn cnt cap b : Nat} {a : Option Addr} {c : Nat} {L : List Fld} (h : TabP w t bw bn (.slice a L.length c) (szL L) cnt cap L (whole L b) (names L b)) (hb : b + L.length = cnt) (ha : Apart t bw bn (.slice a L.length c)) :
    IsTab w t (t :: bw :: bn :: own (.slice a L.length c)) ⟨L, cnt⟩ cap := by
  have e : TS.first ⟨L, cnt⟩ = b := by simp only [TS.first]; omega
  exact ⟨a, c, bw, bn, h.1, h.2.1, by rw [e]; exact h.2.2.1, by rw [e]; exact h.2.2.2, rfl, ha, by simp only; omega⟩
theorem first_b {w : World} {t cap : Nat} {F : List Nat} {s : TS} (h : IsTab w t F s cap) (hc : s.cnt ≤ 1099511627776) (b : Nat) (hb : s.first = b) :
    Calls Try.prog 32 #[.pointer (some ⟨t, 0, none⟩)] w fun e w' => e = .returned (.int .u64 b) ∧ ∃ n, w' = w.drewN n := by
  subst hb
  exact first_any h hc

theorem new_rd2 (w : World) (y : Fld) : Rd (w.alloc (.cells #[.string y.1, .string y.2] 26)) 2 (.slice (some ⟨w.heap.size, 0, none⟩) 1 1) 1 (cf [y]) :=
  ⟨rfl, .inr ⟨_, 0, 1, rfl, Nat.le_refl _, fun _ => by simp, fun j hj => by
    have h := (IsBlk.new w [.string y.1, .string y.2] 26).cell j
    simp only [Nat.zero_add]
    exact h⟩⟩
theorem fieldSize_one {w : World} {x : Value} {y : Fld} (hx : Rd w 2 x 1 (cf [y])) (n : Nat) (hn : sz y = n) (hl : n ≤ 1099511627776) :
    Calls Try.prog 26 #[x] w fun e w' => e = .returned (.int .i64 n) ∧ Touch [] w w' := by
  have e : szL [y] = n := by simp [szL, hn]
  refine (fieldSize_any w x [y] hx (by omega) (by simp)).mono ?_
  rintro e' w' ⟨rfl, hT⟩
  exact ⟨by rw [e], hT⟩
theorem first_s {w : World} {t cap : Nat} {F : List Nat} {s : TS} (h : IsTab w t F s cap) (hc : s.cnt ≤ 1099511627776) (b : Nat) (hb : s.first = b) :
    Calls Try.prog 32 #[.pointer (some ⟨t, 0, none⟩)] w fun e w' => e = .returned (.int .u64 b) ∧ w'.heap.size = w.heap.size ∧ Touch [] w w' ∧ (∀ a, w'.cell? a = w.cell? a) ∧ (∀ a, w'.frozen? a = w.frozen? a) := by
  refine (first_b h hc b hb).mono ?_
  rintro e w' ⟨rfl, n, rfl⟩
  exact ⟨rfl, rfl, (Touch.refl [] _).drewN n, fun _ => rfl, fun _ => rfl⟩

theorem step_delete_W {w : World} {ops : Array Oper} {o : Oper} {a : Act} {K : Act → World → Prop} {Q : Exit → Act → World → Prop} {E : Prop} (hgd : o.guard = none) (m x : Operand)
    (ho : o.op = .call { callee := .builtin .delete, args := #[m, x], argTypes := #[53, 26] }) (b n : Nat) (f : Fld → Option Int) (y : Fld) (hm : a.eval m = .map (some b)) (hx : a.eval x = keyW y) (h : IsW w b n f) (hy : OkW y)
    (hK : ∀ w', IsW w' b n (updW f y none) → Touch [b] w w' → K (a.put o.dst (.tuple #[])) w') : if Region.wanted o (yielded ops a.tmps) = true then Oper.wp Try.prog o a w K Q else E := by
  have hw : Region.wanted o (yielded ops a.tmps) = true := by simp [Region.wanted, hgd]
  rw [if_pos hw]
  obtain ⟨w', hr, h1, h2⟩ := h.drop y hy o.type
  unfold Oper.wp execOp
  simp only [ho, resolve, invoke, builtin, Sem.run_bind, Sem.run_pure, Result.andThen_ok, List.map_toArray, List.map_cons, List.map_nil, hm, hx, hr]
  exact hK _ h1 (Touch.turned h2)
theorem step_delete_N {w : World} {ops : Array Oper} {o : Oper} {a : Act} {K : Act → World → Prop} {Q : Exit → Act → World → Prop} {E : Prop} (hgd : o.guard = none) (m x : Operand)
    (ho : o.op = .call { callee := .builtin .delete, args := #[m, x], argTypes := #[54, 9] }) (b n : Nat) (f : ByteArray → Option Int) (y : ByteArray) (hm : a.eval m = .map (some b)) (hx : a.eval x = .string y) (h : IsN w b n f) (hy : OkN y)
    (hK : ∀ w', IsN w' b n (updN f y none) → Touch [b] w w' → K (a.put o.dst (.tuple #[])) w') : if Region.wanted o (yielded ops a.tmps) = true then Oper.wp Try.prog o a w K Q else E := by
  have hw : Region.wanted o (yielded ops a.tmps) = true := by simp [Region.wanted, hgd]
  rw [if_pos hw]
  obtain ⟨w', hr, h1, h2⟩ := h.drop y hy o.type
  unfold Oper.wp execOp
  simp only [keyN] at hr
  simp only [ho, resolve, invoke, builtin, Sem.run_bind, Sem.run_pure, Result.andThen_ok, List.map_toArray, List.map_cons, List.map_nil, hm, hx, hr]
  exact hK _ h1 (Touch.turned h2)

set_option maxRecDepth 100000 in
set_option maxHeartbeats 4000000 in
theorem fit_any {w : World} {t cap : Nat} {F : List Nat} {s : TS} (h : IsTab w t F s cap) (rm : Int) (hm : -1099511627776 ≤ rm ∧ rm ≤ 1099511627776) (hcap : cap ≤ 1099511627776) (hcn : s.cnt ≤ 1099511627776) (hz : szL s.L ≤ 1099511627776) :
    Calls Try.prog 27 #[.pointer (some ⟨t, 0, none⟩), .int .i64 rm] w fun e w' => e = .returned (.int .i64 (fitN s.L (cap - rm))) ∧ ∃ F', IsTab w' t F' ⟨fitL s.L (cap - rm), s.cnt⟩ cap ∧ Touch F w w' ∧ ∀ g ∈ F', g ∈ F := by
  obtain ⟨L, cnt⟩ := s
  simp only at hz hcn ⊢
  have H := Lib.hid h
  have HZ := Lib.hid hz
  have HCN := Lib.hid hcn
  obtain ⟨m, hme⟩ : ∃ m : Int, (cap : Int) - rm = m := ⟨_, rfl⟩
  rw [hme]
  have hwr : IntKind.i64.wrap ((cap : Int) - rm) = m := by rw [← hme]; exact IntWalk.i64_in _ (by omega)
  clear h hz hcn hme
  go_enter Try.func27, Try.ntmps27
  go_wp2_with fail
  go_loopw [5] (fun i wr => ∃ (k : Nat) (F' : List Nat), k ≤ L.length ∧ i = .int .i64 (k : Int) ∧ fitN L m = k + fitN (L.drop k) m ∧ IsTab wr t F' ⟨L.drop k, cnt⟩ cap ∧ Touch F w wr ∧ ∀ g ∈ F', g ∈ F) (fun i _ => L.length - (intOf i).toNat)
  case atStart => exact ⟨0, F, by omega, rfl, by simp, by simpa using H.out, Touch.refl _ _, fun g hg => hg⟩
  case round =>
    obtain ⟨k, F', hk, rfl, hf, hR, hT, hF⟩ := hrel
    have HF := Lib.hid hf
    have HFF := Lib.hid hF
    have HT := Lib.hid hT
    clear hf hF hT
    have hlen : (L.drop k).length = L.length - k := by simp
    have hszd : szL (L.drop k) ≤ 1099511627776 := Nat.le_trans (szL_drop_le L k) HZ.out
    have hl40 : (L.drop k).length * 32 ≤ szL (L.drop k) := szL_len _
    obtain ⟨M, hM⟩ : ∃ M, L.drop k = M := ⟨_, rfl⟩
    have hd : L.drop (k + 1) = M.drop 1 := by rw [← hM, List.drop_drop]
    rw [hM] at hlen hR hszd hl40
    have HLEN := Lib.hid hlen
    have HMM := Lib.hid hM
    have HD := Lib.hid hd
    have HR := Lib.hid hR
    obtain ⟨a, c, bw, bn, hP, h3, h5, h6⟩ := hR.parts
    simp only at hP h3 h5 h6
    have c0 := hP.1.cell 0
    have c2 := hP.1.cell 2
    have c3 := hP.1.cell 3
    have cl := hP.1.lt
    simp only [List.getElem?_cons_zero, List.getElem?_cons_succ] at c0 c2 c3
    have HP := Lib.hid hP
    have H3 := Lib.hid h3
    have H5 := Lib.hid h5
    have H6 := Lib.hid h6
    clear hM hd hP h3 h5 h6 hR
    by_cases hgo : m < (szL M : Int) ∧ 0 < M.length
    · obtain ⟨hgo, hpos⟩ := hgo
      obtain ⟨y, M', hy⟩ : ∃ y M', M = y :: M' := by
        cases M with
        | nil => simp at hpos
        | cons y M' => exact ⟨y, M', rfl⟩
      have HY := Lib.hid hy
      obtain ⟨g, o, rfl⟩ := HP.out.2.1.rd.some hpos
      have hc : M.length ≤ c := by
        rcases HP.out.2.1.cases with ⟨h1, _⟩ | ⟨g', o', c', h1, h2, _⟩
        · simp at h1
        · simp at h1
          omega
      obtain ⟨d0, d1, hg⟩ := HP.out.2.1.rd.two rfl 0 y (by rw [hy]; rfl)
      obtain ⟨y1, y2⟩ := y
      simp only [Nat.zero_mul, Nat.add_zero] at d0 d1
      clear hy
      have hb1 : (0 : Int) < (M.length : Int) := by omega
      have hb2 : decide (m < (szL M : Int)) = true := by simpa using hgo
      have hb3 : (k : Int) + 1 ≤ 1099511627776 := by have := HZ.out; have := szL_len L; omega
      have hkl : k + 1 ≤ L.length := by have := HLEN.out; omega
      have HSM := Lib.hid (show szL M ≤ 1152921504606846976 ∧ M.length ≤ 1099511627776 from by omega)
      obtain ⟨b, hb⟩ : ∃ b, TS.first ⟨M, cnt⟩ = b := ⟨_, rfl⟩
      have HB := Lib.hid hb
      have n0 := World.new_ne wr _ c0
      have n1 := World.new_ne wr _ d0
      have n2 := World.new_ne wr _ d1
      clear hszd hl40 hb hlen
      go_wp2_with fail
      go_quiet (fail)
      have HR := Lib.hid (HR.out.keep ((Touch.refl [] _).drewN nq))
      have HP := Lib.hid (HP.out.keep ((Touch.refl [] _).drewN nq))
      have HT := Lib.hid (HT.out.drewN nq)
      have c0 : (wr.drewN nq).cell? ⟨t, 0, none⟩ = some (.slice (some ⟨g, o, none⟩) M.length c) := c0
      have d0 : (wr.drewN nq).cell? ⟨g, o, none⟩ = some (.string y1) := d0
      have d1 : (wr.drewN nq).cell? ⟨g, o + 1, none⟩ = some (.string y2) := d1
      have hg : g < (wr.drewN nq).heap.size := hg
      have cl : t < (wr.drewN nq).heap.size := cl
      clear n0 n1 n2 c2 c3
      generalize wr.drewN nq = wr at *
      have n0 := World.new_ne wr _ c0
      have n1 := World.new_ne wr _ d0
      have n2 := World.new_ne wr _ d1
      go_wp2_with fail
      go_cut [6, 7] (fun s6 s7 wx => ∃ p, s6 = .pointer (some ⟨p, 0, none⟩) ∧ s7 = .int .u64 b ∧ IsBlk wx p [.string y1, .string y2] 26 ∧ wr.heap.size ≤ p ∧ Touch [] wr wx)
      case first =>
        go_region_held3 (fun w' => w'.cell? ⟨t, 0, none⟩ = some (.slice (some ⟨g, o, none⟩) M.length c) ∧ w'.cell? ⟨g, o, none⟩ = some (.string y1) ∧ w'.cell? ⟨g, o + 1, none⟩ = some (.string y2)) (go_keep) (first | (go_at_call 32; refine (first_s (HR.out.keep ?_) HCN.out b HB.out).mono ?_; (repeat (first | exact Touch.refl _ _ | refine Touch.drewN ?_ _ | refine Touch.drew ?_ | refine Touch.set ?_ (.inr (by simp)) _ | refine Touch.alloc ?_ _)); rintro e w' ⟨rfl, hs, hT, hcc, hff⟩; have HS := Lib.hid hs; have HTT := Lib.hid hT; clear hs hT))
        · go_wp2_with fail
          go_meet
          have hz := HS.out
          refine ⟨w'.heap.size, rfl, rfl, IsBlk.new w' [.string y1, .string y2] 26, by simp at hz; omega, ?_⟩
          exact ((Touch.refl [] wr).drew.trans HTT.out (by simp)).alloc _
        · go_wp2_with fail
          go_meet
          have hz := HS.out
          have hI : IsBlk w' wr.heap.size [.string ByteArray.empty, .string ByteArray.empty] 26 := ((IsBlk.new wr [.string ByteArray.empty, .string ByteArray.empty] 26).drew).touch HTT.out (by simp)
          refine ⟨wr.heap.size, rfl, rfl, (hI.set 0 _).set 1 _, Nat.le_refl _, ?_⟩
          exact (((((Touch.refl [] wr).alloc _).drew).trans HTT.out (by simp)).set (.inr (Nat.le_refl _)) _).set (.inr (Nat.le_refl _)) _
      case rest =>
        obtain ⟨p, rfl, rfl, hI, hp, hT1⟩ := hcut
        have HI := Lib.hid hI
        have HPP := Lib.hid hp
        have HT1 := Lib.hid hT1
        have HP1 := Lib.hid (HP.out.keep hT1)
        have e4 := HP1.out.1.cell 4
        have i0 := hI.cell 0
        have i1 := hI.cell 1
        have hpl := hI.lt
        have htl := HP1.out.1.lt
        simp only [List.getElem?_cons_zero, List.getElem?_cons_succ] at e4 i0 i1
        clear c0 d0 d1 n0 n1 n2 cl hg hI hp hT1
        have hyy := HY.out
        have hok : OkW (y1, y2) := by
          have h1 := HSM.out.1
          rw [hyy, szL_cons] at h1
          simp only [sz] at h1
          exact ⟨show y1.size ≤ maxLen by unfold maxLen; omega, show y2.size ≤ maxLen by unfold maxLen; omega⟩
        have HOK := Lib.hid hok
        obtain ⟨i, hi, hi1, hi2⟩ : ∃ i, whole M b (y1, y2) = some i ∧ (b : Int) ≤ i ∧ i < b + (M'.length + 1) := by rw [hyy]; exact last_here _ _ _ _ (by simp)
        obtain ⟨j, hj, hj1, hj2⟩ : ∃ j, names M b y1 = some j ∧ (b : Int) ≤ j ∧ j < b + (M'.length + 1) := by rw [hyy]; exact last_here _ _ _ _ (by simp)
        have lk : ∀ n, (Instr.lookup 53 (.map (some bw)) (.agg #[.string y1, .string y2]) false).run Try.prog (wc.drewN n) = .ok (.int .u64 i) (wc.drewN n) := fun n => by
          have h1 := HP1.out.2.2.1
          rw [HB.out] at h1
          have := (h1.touch ((Touch.refl [] _).drewN n) (by simp)).look1 (y1, y2) hok
          rw [hi] at this
          exact this
        have HII := Lib.hid hi
        have HJJ := Lib.hid hj
        have HJ1 := Lib.hid hj1
        clear hyy hok hi hi1 hi2 hj hj1 hj2
        go_wp2_with fail
        go_quiet (fail)
        have HP1 := Lib.hid (HP1.out.keep ((Touch.refl [] _).drewN nq))
        have HI := Lib.hid (HI.out.drewN nq)
        have HT1 := Lib.hid (HT1.out.drewN nq)
        clear e4 i0 i1 hpl htl lk
        generalize wc.drewN nq = wq at *
        have i0 := HI.out.cell 0
        have i1 := HI.out.cell 1
        have hpl := HI.out.lt
        have htl := HP1.out.1.lt
        simp only [List.getElem?_cons_zero, List.getElem?_cons_succ] at i0 i1
        have e4 := HP1.out.1.cell 4
        simp only [List.getElem?_cons_zero, List.getElem?_cons_succ] at e4
        generalize hq : (i == (b : Int)) = q
        have HQ := Lib.hid hq
        clear hq
        go_upto_if 42 with fail
        go_cut [] (fun wx => TabP wx t bw bn (.slice (some ⟨g, o, none⟩) M.length c) (szL M) cnt cap M (whole M' (b + 1)) (names M b) ∧ IsBlk wx p [.string y1, .string y2] 26 ∧ Touch F' wr wx)
        case first =>
          have hF := H3.out
          cases q with
          | true =>
            have HIB := Lib.hid (show i = (b : Int) by have := HQ.out; simpa using this)
            go_wp2_with fail
            go_region_law (refine step_delete_W rfl (.tmp 46) (.tmp 47) rfl bw cnt (whole M b) (y1, y2) (by simp [Act.eval]) (by simp [Act.eval, keyW]) (by have := HP1.out.2.2.1; rw [HB.out] at this; exact this.touch (Touch.refl [] _).drew (by simp)) HOK.out ?_; intro w2 k1 k2; have K1 := Lib.hid k1; have K2 := Lib.hid k2; clear k1 k2)
            all_goals
              go_wp2_with fail
              go_meet
              have hyy := HY.out
              have hwi := HII.out
              rw [HIB.out] at hwi
              have hk1 := K1.out
              rw [hyy] at hwi
              rw [hyy, ← whole_drop_yes (y1, y2) M' b hwi] at hk1
              have hK : Touch [bw] wq w2 := ((Touch.refl [bw] _).drew).trans K2.out (by simp)
              have hP2 := HP1.out
              rw [HB.out] at hP2
              refine ⟨hP2.goneW H5.out hK hk1, HI.out.touch hK (by simp; have := HPP.out; have := HP.out.2.2.1.lt; omega), ?_⟩
              exact (HT1.out.mono (js := F') (by simp)).trans hK (by simp [hF])
          | false =>
            have HIB := Lib.hid (show i ≠ (b : Int) by have := HQ.out; simpa using this)
            go_wp2_with fail
            go_meet
            have hyy := HY.out
            have hwi := HII.out
            have hP2 := HP1.out
            rw [HB.out] at hP2
            have e : whole M' (b + 1) = whole M b := by
              rw [hyy] at hwi ⊢
              exact whole_drop_no _ _ _ (by rw [hwi]; intro e; exact HIB.out (Option.some.inj e))
            rw [e]
            exact ⟨hP2, HI.out, HT1.out.mono (by simp)⟩
        case rest =>
        obtain ⟨hP2, hI, hT2⟩ := hcut
        have HP2 := Lib.hid hP2
        have HI := Lib.hid hI
        have HT2 := Lib.hid hT2
        clear hP2 hI hT2 HP1 HT1 e4 i0 i1 hpl htl
        have e5 := HP2.out.1.cell 5
        have i0 := HI.out.cell 0
        have hpl := HI.out.lt
        have htl := HP2.out.1.lt
        simp only [List.getElem?_cons_zero, List.getElem?_cons_succ] at e5 i0
        go_wp2_with fail
        have lk : ∀ n, (Instr.lookup 54 (.map (some bn)) (.string y1) false).run Try.prog (wc.drewN n) = .ok (.int .u64 j) (wc.drewN n) := fun n => by
          have := (HP2.out.2.2.2.touch ((Touch.refl [] _).drewN n) (by simp)).look1 y1 HOK.out.1
          rw [HJJ.out] at this
          exact this
        go_quiet (fail)
        have HP2 := Lib.hid (HP2.out.keep ((Touch.refl [] _).drewN nq))
        have HI := Lib.hid (HI.out.drewN nq)
        have HT2 := Lib.hid (HT2.out.drewN nq)
        clear e5 i0 hpl htl lk
        generalize wc.drewN nq = wq at *
        have i0 := HI.out.cell 0
        have hpl := HI.out.lt
        have htl := HP2.out.1.lt
        have e5 := HP2.out.1.cell 5
        simp only [List.getElem?_cons_zero, List.getElem?_cons_succ] at e5 i0
        generalize hq : (j == (b : Int)) = q
        have HQ := Lib.hid hq
        clear hq
        go_upto_if 56 with fail
        go_cut [] (fun wx => TabP wx t bw bn (.slice (some ⟨g, o, none⟩) M.length c) (szL M) cnt cap M (whole M' (b + 1)) (names M' (b + 1)) ∧ IsBlk wx p [.string y1, .string y2] 26 ∧ Touch F' wr wx)
        case first =>
          have hF := H3.out
          cases q with
          | true =>
            have HIB := Lib.hid (show j = (b : Int) by have := HQ.out; simpa using this)
            go_wp2_with fail
            go_region_law (refine step_delete_N rfl (.tmp 60) (.tmp 62) rfl bn cnt (names M b) y1 (by simp [Act.eval]) (by simp [Act.eval]) (HP2.out.2.2.2.touch (Touch.refl [] _).drew (by simp)) HOK.out.1 ?_; intro w2 k1 k2; have K1 := Lib.hid k1; have K2 := Lib.hid k2; clear k1 k2)
            all_goals
              go_wp2_with fail
              go_meet
              have hyy := HY.out
              have hwi := HJJ.out
              rw [HIB.out] at hwi
              have hk1 := K1.out
              rw [hyy] at hwi
              rw [hyy, ← names_drop_yes (y1, y2) M' b hwi] at hk1
              have hK : Touch [bn] wq w2 := ((Touch.refl [bn] _).drew).trans K2.out (by simp)
              refine ⟨HP2.out.goneN H5.out hK hk1, HI.out.touch hK (by simp; have := HPP.out; have := HP.out.2.2.2.lt; omega), ?_⟩
              exact HT2.out.trans hK (by simp [hF])
          | false =>
            have HIB := Lib.hid (show j ≠ (b : Int) by have := HQ.out; simpa using this)
            go_wp2_with fail
            go_meet
            have hyy := HY.out
            have hwi := HJJ.out
            have hP2 := HP2.out
            have e : names M' (b + 1) = names M b := by
              rw [hyy] at hwi ⊢
              exact names_drop_no _ _ _ (by rw [hwi]; intro e; exact HIB.out (Option.some.inj e))
            rw [e]
            exact ⟨hP2, HI.out, HT2.out⟩
        case rest =>
        obtain ⟨hP3, hI, hT3⟩ := hcut
        have HP3 := Lib.hid hP3
        have HI := Lib.hid hI
        have HT3 := Lib.hid hT3
        clear hP3 hI hT3 HP2 HT2 e5 i0 hpl htl
        have c0 := HP3.out.1.cell 0
        have f0 := HP3.out.1.frozen 0
        have htl := HP3.out.1.lt
        simp only [List.getElem?_cons_zero] at c0
        go_upto_region 8 with fail
        go_cut [] (fun wx => ∃ o', TabP wx t bw bn (.slice (some ⟨g, o', none⟩) M'.length (c - 1)) (szL M) cnt cap M' (whole M' (b + 1)) (names M' (b + 1)) ∧ Apart t bw bn (.slice (some ⟨g, o', none⟩) M'.length (c - 1)) ∧ (∀ f ∈ own (.slice (some ⟨g, o', none⟩) M'.length (c - 1)), f ∈ F') ∧ IsBlk wx p [.string y1, .string y2] 26 ∧ Touch F' wr wx)
        case first =>
          have hF := H3.out
          have hb0 : (1 : Int) ≤ (M.length : Int) := by omega
          have HCUT := Lib.hid (fun wx (hw : wx = wc) => (show ∃ o', TabP (wx.setCell ⟨t, 0, none⟩ (.slice (some ⟨g, behind g o c, none⟩) (M.length - 1) (c - 1))) t bw bn (.slice (some ⟨g, o', none⟩) M'.length (c - 1)) (szL M) cnt cap M' (whole M' (b + 1)) (names M' (b + 1)) ∧ Apart t bw bn (.slice (some ⟨g, o', none⟩) M'.length (c - 1)) ∧ (∀ f ∈ own (.slice (some ⟨g, o', none⟩) M'.length (c - 1)), f ∈ F') ∧ IsBlk (wx.setCell ⟨t, 0, none⟩ (.slice (some ⟨g, behind g o c, none⟩) (M.length - 1) (c - 1))) p [.string y1, .string y2] 26 ∧ Touch F' wr (wx.setCell ⟨t, 0, none⟩ (.slice (some ⟨g, behind g o c, none⟩) (M.length - 1) (c - 1))) by
            subst hw
            have hyy := HY.out
            have hM : M'.length = M.length - 1 := by rw [hyy]; simp
            have hsl := HP3.out.2.1.tail rfl hpos
            have hdr : M.drop 1 = M' := by rw [hyy]; rfl
            rw [hdr] at hsl
            have hsub : ∀ f ∈ own (.slice (some ⟨g, behind g o c, none⟩) (M.length - 1) (c - 1)), f ∈ own (.slice (some ⟨g, o, none⟩) M.length c) := own_sub (by omega)
            rw [← hM] at hsl hsub ⊢
            obtain ⟨k1, k2⟩ := HP3.out.cut H5.out hsub hsl
            refine ⟨behind g o c, k1, k2, fun f hf => by rw [hF]; simp [hsub f hf], HI.out.set_other (by have := HPP.out; have := HP.out.1.lt; omega) _, HT3.out.set (.inl (by simp [hF])) _⟩))
          by_cases hc1 : c = 1
          · have hM1 : M.length = 1 := by omega
            have HM1 := Lib.hid hM1
            obtain rfl : c = 1 := hc1
            clear hM1
            go_wp2_with fail
            go_meet
            have := HCUT.out _ rfl
            simp only [HM1.out, behind] at this
            exact this
          · go_wp2_with fail
            go_meet
            have := HCUT.out _ rfl
            simp only [behind, if_neg hc1] at this
            exact this
        case rest =>
        obtain ⟨o', hP4, hA4, hO4, hI, hT4⟩ := hcut
        have HP4 := Lib.hid hP4
        have HA4 := Lib.hid hA4
        have HO4 := Lib.hid hO4
        have HI := Lib.hid hI
        have HT4 := Lib.hid hT4
        clear hP4 hA4 hO4 hI hT4 HP3 HT3 c0 f0 htl
        go_wp2_with fail
        have e3 := HP4.out.1.cell 3
        have i0 := HI.out.cell 0
        have i1 := HI.out.cell 1
        have hpl := HI.out.lt
        have htl := HP4.out.1.lt
        simp only [List.getElem?_cons_zero, List.getElem?_cons_succ] at e3 i0 i1
        obtain ⟨n1, hn1⟩ : ∃ n, sz (y1, y2) = n := ⟨_, rfl⟩
        have hsum : szL M = n1 + szL M' := by rw [HY.out, szL_cons, hn1]
        have hw1 : IntKind.i64.wrap ((szL M : Int) - (n1 : Int)) = (szL M' : Int) := by rw [IntWalk.i64_in _ (by have := HSM.out.1; omega)]; omega
        have HN1 := Lib.hid hn1
        have HN40 := Lib.hid (show n1 ≤ 1099511627776 by have := HZ.out; have := szL_drop_le L k; rw [HMM.out] at this; omega)
        have m0 := World.new_ne wc _ e3
        have m1 := World.new_ne wc _ i0
        have m2 := World.new_ne wc _ i1
        clear hn1 hsum
        go_region_law (first | (go_simp; go_at_call 26; refine (fieldSize_one (y := (y1, y2)) ?_ n1 HN1.out HN40.out).mono ?_; (exact new_rd2 _ (y1, y2)); rintro e w' ⟨rfl, hT⟩; have hT2 := Touch.trans (w := wc) (ks := []) (by (repeat (first | exact Touch.refl _ _ | refine Touch.drewN ?_ _ | refine Touch.drew ?_ | refine Touch.alloc ?_ _))) hT (by simp); have e3 := (HP4.out.1.touch hT2 (by simp)).cell 3; have f3 := (HP4.out.1.touch hT2 (by simp)).frozen 3; have i0 := (HI.out.touch hT2 (by simp)).cell 0; have i1 := (HI.out.touch hT2 (by simp)).cell 1; simp only [List.getElem?_cons_zero, List.getElem?_cons_succ] at e3 i0 i1; have HT9 := Lib.hid hT2; clear hT hT2))
        all_goals
          go_wp2_with fail
          go_roundw
          case rel =>
            have hF := H3.out
            have hyy := HY.out
            have hdr : M.drop 1 = M' := by rw [hyy]; rfl
            have hP5 := (HP4.out.keep HT9.out).sized HA4.out (szL M')
            have hbc : (b + 1) + M'.length = cnt := by
              have h1 := HB.out
              have h2 := H6.out
              simp only [TS.first] at h1
              rw [hyy] at h1 h2
              simp at h1 h2
              omega
            have htF : t ∈ F := HFF.out t (by rw [hF]; simp)
            refine ⟨k + 1, _, hkl, by go_num, ?_, by rw [HD.out, hdr]; exact hP5.tab hbc HA4.out, ?_, fun f hf => ?_⟩
            · rw [HF.out, HMM.out, fitN_go M m (y1, y2) M' hyy hgo, HD.out, hdr]
              omega
            · exact ((HT.out.trans HT4.out (fun g hg => .inl (HFF.out g hg))).trans HT9.out (by simp)).set (.inl htF) _
            · simp only [List.mem_cons] at hf
              rcases hf with rfl | rfl | rfl | hf
              · exact htF
              · exact HFF.out _ (by rw [hF]; simp)
              · exact HFF.out _ (by rw [hF]; simp)
              · exact HFF.out f (HO4.out f hf)
          case measure => simp [intOf]; omega
    · have hend : fitN M m = 0 := by
        by_cases h0 : m < (szL M : Int)
        · have : M = [] := List.eq_nil_of_length_eq_zero (by omega)
          rw [this]; rfl
        · exact fitN_stop M m h0
      have hfin : fitN L m = k := by rw [HF.out, HMM.out, hend]; omega
      have hfl : fitL L m = M := by unfold fitL; rw [hfin]; exact HMM.out
      have hend2 : M.length = 0 ∨ (0 < M.length ∧ ¬ m < (szL M : Int)) := by omega
      have HFIN := Lib.hid hfin
      have HFL := Lib.hid hfl
      clear hgo hend hszd hl40 hfin hfl hlen
      rcases hend2 with h0 | ⟨hpos, hno⟩
      · have hb1 : decide (0 < M.length) = false := by simp; exact List.eq_nil_of_length_eq_zero h0
        clear h0
        go_wp2_with fail
        go_quiet (fail)
        go_wp2_with fail
        go_ret
        exact ⟨ret_i (by rw [HFIN.out]), F', by rw [HFL.out]; exact HR.out.keep ((Touch.refl [] _).drewN nq), HT.out.drewN nq, HFF.out⟩
      · have hb1 : (0 : Int) < (M.length : Int) := by omega
        have hb2 : decide (m < (szL M : Int)) = false := by simpa using hno
        go_wp2_with fail
        go_quiet (fail)
        go_wp2_with fail
        go_ret
        exact ⟨ret_i (by rw [HFIN.out]), F', by rw [HFL.out]; exact HR.out.keep ((Touch.refl [] _).drewN nq), HT.out.drewN nq, HFF.out⟩
end Go.Proofs.Ytfkmcbkhodppmaa
