/- What the closure of Ack does at each packet. Conditions: the ledger is in order; the ranges lie beside it. -/
import Derived.Test.YthnokfchebmjiaaX0
namespace Go.Proofs.Ythnokfchebmjiaa
open Go.RowKit

def pcells (s : Pkt) : List Value := [.int .u64 (s.pn : Int), .int .u64 (s.when_ : Int), .int .i64 (s.size : Int), .bool s.eager]
/-- What stays as it is while the packets are looked at. -/
structure Fixed (w0 : World) (p mb b1 b2 b3 b4 : Nat) (ao : Option Addr) (co : Nat) (σ : Ldg) (r : Value) : Prop where
  ok : σ.Ok
  plt : p < w0.heap.size
  mlt : mb < w0.heap.size
  pm : p ≠ mb
  ord : ∀ g ∈ own (.slice ao σ.opens.length co), g < w0.heap.size ∧ g ≠ p ∧ g ≠ mb
  rng : ∀ g ∈ own r, g < w0.heap.size ∧ g ≠ mb ∧ g ∉ own (.slice ao σ.opens.length co)
  far : w0.heap.size ≤ b1 ∧ w0.heap.size ≤ b2 ∧ w0.heap.size ≤ b3 ∧ w0.heap.size ≤ b4
  dif : b1 ≠ b3 ∧ b1 ≠ b4 ∧ b2 ≠ b3 ∧ b2 ≠ b4 ∧ b3 ≠ b4
/-- While the packets are looked at: i of them were. -/
structure Acking (w0 w' : World) (p mb q b1 b2 b3 b4 : Nat) (ao : Option Addr) (co : Nat) (σ : Ldg) (r : Value) (L : List Rng) (m i : Nat) : Prop where
  k1 : IsBlk w' b1 [r] 36
  rd : Rd w' 2 r L.length (cr L)
  k2 : IsBlk w' b2 [.pointer (some ⟨p, 0, none⟩)] 24
  k3 : IsBlk w' b3 (pcells ((goneL σ.opens (fun x => hasB x L) i).getLast?.getD noPkt)) 30
  box : Box w0 w' b4 (pns (goneL σ.opens (fun x => hasB x L) i)) [b1, b2, b3]
  head : IsBlk w' p (lcells σ mb ao co q) 64
  map : IsM w' mb m (fnd (restL σ.opens (fun x => hasB x L) i))
  touch : Touch (mb :: own (.slice ao σ.opens.length co)) w0 w'
section
variable {w0 w1 w2 : World} {p mb q b1 b2 b3 b4 co m i : Nat} {ao : Option Addr} {σ : Ldg} {r : Value} {L : List Rng}
theorem Acking.keep (h : Acking w0 w1 p mb q b1 b2 b3 b4 ao co σ r L m i) (hf : Fixed w0 p mb b1 b2 b3 b4 ao co σ r) (hk : Touch [] w1 w2) : Acking w0 w2 p mb q b1 b2 b3 b4 ao co σ r L m i := by
  obtain ⟨d1, d2, d3, d4, d5⟩ := hf.dif
  exact ⟨h.k1.touch hk (by simp), h.rd.touch hk (by simp), h.k2.touch hk (by simp), h.k3.touch hk (by simp), h.box.touch hk (by simp) (by simp; exact ⟨fun e => d2 e.symm, fun e => d4 e.symm, fun e => d5 e.symm⟩), h.head.touch hk (by simp), h.map.touch hk (by simp), h.touch.trans hk (by simp)⟩
/-- The order's own block is turned. -/
theorem Acking.order (h : Acking w0 w1 p mb q b1 b2 b3 b4 ao co σ r L m i) (hf : Fixed w0 p mb b1 b2 b3 b4 ao co σ r) (hk : Touch (own (.slice ao σ.opens.length co)) w1 w2) : Acking w0 w2 p mb q b1 b2 b3 b4 ao co σ r L m i := by
  obtain ⟨d1, d2, d3, d4, d5⟩ := hf.dif
  obtain ⟨f1, f2, f3, f4⟩ := hf.far
  have nb : ∀ b, w0.heap.size ≤ b → b ∉ own (.slice ao σ.opens.length co) := fun b hb hm => by have := (hf.ord b hm).1; omega
  exact ⟨h.k1.touch hk (nb _ f1), h.rd.touch hk (fun g hg => (hf.rng g hg).2.2), h.k2.touch hk (nb _ f2), h.k3.touch hk (nb _ f3), h.box.touch hk (fun g hg => .inl (hf.ord g hg).1) (by simp; exact ⟨fun e => d2 e.symm, fun e => d4 e.symm, fun e => d5 e.symm⟩), h.head.touch hk (fun hm => (hf.ord _ hm).2.1 rfl), h.map.touch hk (fun hm => (hf.ord _ hm).2.2 rfl), h.touch.trans hk (fun g hg => .inl (by simp [hg]))⟩
end

/-- 'delete' at the operation. -/
theorem wpList_dropM (w : World) {ops : Array Oper} {rest : List Oper} {o : Oper} {a : Act} {Q : Exit → Act → World → Prop} (hg : o.guard = none) (mo x : Operand) (hop : o.op = Op.call { callee := Callee.builtin Builtin.delete, args := #[mo, x], argTypes := #[60, 28] })
    (b n : Nat) (f : Nat → Option Pkt) (hm : a.eval mo = .map (some b)) (h : IsM w b n f) (k : Nat) (hk : k < 18446744073709551616) (hx : a.eval x = .int .u64 (k : Int))
    (hK : ∀ w', IsM w' b n (upd f k none) → Touch [b] w w' → wpList Try.prog ops Q rest (a.put o.dst (.tuple #[])) w') : wpList Try.prog ops Q (o :: rest) a w := by
  refine wpList_plain hg fun K' hK' => ?_
  obtain ⟨w', hrun, r1, r2⟩ := h.drop k hk o.type
  unfold Oper.wp
  simp [execOp, hop, resolve, invoke, builtin, hm, hx, hrun, Result.andThen]
  exact hK' _ _ (hK w' r1 r2)

set_option maxHeartbeats 4000000 in
theorem ack1_any (w0 w : World) (p mb q b1 b2 b3 b4 co m i : Nat) (ao : Option Addr) (σ : Ldg) (r : Value) (L : List Rng) (s : Pkt) (hf : Fixed w0 p mb b1 b2 b3 b4 ao co σ r) (h : Acking w0 w p mb q b1 b2 b3 b4 ao co σ r L m i) (hs : σ.opens[i]? = some s) (hL : L.length ≤ maxLen) :
    Calls Try.prog 25 #[.int .u64 (s.pn : Int), .pointer (some ⟨b1, 0, none⟩), .pointer (some ⟨b2, 0, none⟩), .pointer (some ⟨b3, 0, none⟩), .pointer (some ⟨b4, 0, none⟩)] w fun e w' => e = .returned (.bool (hasB s.pn L)) ∧ Acking w0 w' p mb q b1 b2 b3 b4 ao co σ r L m (i + 1) ∧ Keeps (own (.slice ao σ.opens.length co)) w w' := by
  have H := Lib.hid h
  have HF := Lib.hid hf
  have HS := Lib.hid hs
  have hsm := hf.ok.small (List.mem_of_getElem? hs)
  have c1 := h.k1.cell 0
  have l1 := h.k1.lt
  simp only [List.getElem?_cons_zero] at c1
  have HI := Lib.hid (in_any w r s.pn L h.rd hL)
  have HOL : Hid (∀ g ∈ own (.slice ao σ.opens.length co), g < w.heap.size) := Lib.hid (fun g hg => by have := (hf.ord g hg).1; have := h.touch.size; omega)
  obtain ⟨β, hβ⟩ : ∃ β, β = hasB s.pn L := ⟨_, rfl⟩
  rw [← hβ] at HI ⊢
  have HB := Lib.hid hβ
  clear h hf hs hβ
  cases β with
  | false =>
    go_enter Try.func25, Try.ntmps25
    go_wp2_with fail
    refine HI.out.mono ?_
    rintro e w1 ⟨rfl, hT⟩
    have HT := Lib.hid hT
    clear hT
    go_wp2_with fail
    go_ret
    have h1 := H.out.keep HF.out HT.out
    refine ⟨rfl, ⟨h1.k1, h1.rd, h1.k2, ?_, ?_, h1.head, ?_, h1.touch⟩, Keeps.of HT.out (fun g hg => ⟨HOL.out g hg, by simp⟩)⟩
    · rw [goneL_stay HS.out HB.out.symm]; exact h1.k3
    · rw [goneL_stay HS.out HB.out.symm]; exact h1.box
    · rw [restL_stay HS.out HB.out.symm]; exact h1.map
  | true =>
    go_enter Try.func25, Try.ntmps25
    go_wp2_with fail
    refine HI.out.mono ?_
    rintro e w1 ⟨rfl, hT⟩
    have HT := Lib.hid hT
    have A1 := Lib.hid (H.out.keep HF.out hT)
    clear hT c1 l1
    have hlk := A1.out.map.look s.pn (by omega)
    rw [restL_find HF.out.ok.rise HS.out] at hlk
    have d2 := A1.out.k2.cell 0
    have l2 := A1.out.k2.lt
    have d0 := A1.out.head.cell 0
    have l0 := A1.out.head.lt
    have g0 := A1.out.k3.cell 0
    have g1 := A1.out.k3.cell 1
    have g2 := A1.out.k3.cell 2
    have g3 := A1.out.k3.cell 3
    have z0 := A1.out.k3.frozen 0
    have z1 := A1.out.k3.frozen 1
    have z2 := A1.out.k3.frozen 2
    have z3 := A1.out.k3.frozen 3
    have l3 := A1.out.k3.lt
    simp only [lcells, pcells, List.getElem?_cons_zero, List.getElem?_cons_succ] at d2 d0 g0 g1 g2 g3
    unfold pktV at hlk
    simp only [Option.getD_some] at hlk
    go_upto_region 4 with fail
    obtain ⟨W2, hW2⟩ : ∃ W2, W2 = ((((w1.setCell ⟨b3, 0, none⟩ (.int .u64 (s.pn : Int))).setCell ⟨b3, 1, none⟩ (.int .u64 (s.when_ : Int))).setCell ⟨b3, 2, none⟩ (.int .i64 (s.size : Int))).setCell ⟨b3, 3, none⟩ (.bool s.eager)) := ⟨_, rfl⟩
    rw [← hW2]
    have HT2 : Hid (Touch [b3] w1 W2) := Lib.hid (by rw [hW2]; exact ((((Touch.refl [b3] w1).set (.inl (by simp)) _).set (.inl (by simp)) _).set (.inl (by simp)) _).set (.inl (by simp)) _)
    have HK3 : Hid (IsBlk W2 b3 (pcells s) 30) := Lib.hid (by rw [hW2]; exact (((A1.out.k3.set 0 _).set 1 _).set 2 _).set 3 _)
    obtain ⟨e1, e2, e3, e4, e5⟩ := HF.out.dif
    obtain ⟨n1, n2, n3, n4⟩ := HF.out.far
    have hmb := HF.out.mlt
    have hpb := HF.out.plt
    have HM2 : Hid (IsM W2 mb m (fnd (restL σ.opens (fun x => hasB x L) i))) := Lib.hid (A1.out.map.touch HT2.out (by simp; omega))
    have HP2 : Hid (IsBlk W2 p (lcells σ mb ao co q) 64) := Lib.hid (A1.out.head.touch HT2.out (by simp; omega))
    have HK2 : Hid (IsBlk W2 b2 [.pointer (some ⟨p, 0, none⟩)] 24) := Lib.hid (A1.out.k2.touch HT2.out (by simp; exact e3))
    have HK1 : Hid (IsBlk W2 b1 [r] 36) := Lib.hid (A1.out.k1.touch HT2.out (by simp; exact e1))
    have HRD : Hid (Rd W2 2 r L.length (cr L)) := Lib.hid (A1.out.rd.touch HT2.out (fun g hg hm => by have := (HF.out.rng g hg).1; simp at hm; omega))
    have HBX : Hid (Box w0 W2 b4 (pns (goneL σ.opens (fun x => hasB x L) i)) [b1, b2, b3]) := Lib.hid (A1.out.box.touch HT2.out (fun g hg => .inr (by simp at hg; simp [hg])) (by simp; exact ⟨fun e => e2 e.symm, fun e => e4 e.symm, fun e => e5 e.symm⟩))
    clear hW2 hlk d2 l2 d0 l0 g0 g1 g2 g3 z0 z1 z2 z3 l3
    have d2 := HK2.out.cell 0
    have l2 := HK2.out.lt
    have d0 := HP2.out.cell 0
    have l0 := HP2.out.lt
    simp only [lcells, List.getElem?_cons_zero] at d2 d0
    go_upto_region 5 with (at_delete; refine wpList_dropM _ rfl _ _ rfl mb m _ rfl HM2.out s.pn (by omega) rfl ?_; intro w3 hm3 ht3; have HM3 := Lib.hid hm3; have HT3 := Lib.hid ht3; clear hm3 ht3)
    rw [restL_go HF.out.ok.rise HS.out HB.out.symm] at HM3
    obtain ⟨ns, hns⟩ : ∃ ns, ns = pns (goneL σ.opens (fun x => hasB x L) i) := ⟨_, rfl⟩
    have hnl : ns.length ≤ 100000 := by
      have h1 := goneL_len σ.opens (fun x => hasB x L) i
      have h2 := HF.out.ok.nopen
      have h3 := HF.out.ok.tot
      rw [hns, pns_len]
      omega
    rw [← hns] at HBX
    have HNS := Lib.hid hns
    clear hns
    obtain ⟨a, c, k1, k2, k3, k4⟩ := HBX.out
    have HK4 := Lib.hid (k1.touch HT3.out (by simp; omega))
    have HSL := Lib.hid (k2.touch HT3.out (fun g hg hm => by have := (k4 g hg).1; simp at hm; omega))
    have HFR := Lib.hid k4
    obtain ⟨i0, hi0, hy0, hy1, hy2⟩ := info_parts info28
    clear k1 k2 k3 k4 d2 l2 d0 l0
    have d4 := HK4.out.cell 0
    have f4 := HK4.out.frozen 0
    have l4 := HK4.out.lt
    simp only [List.getElem?_cons_zero] at d4
    have HRD1 : Hid (Rd (w3.alloc (.cells #[.int .u64 (s.pn : Int)] 28)) 1 (.slice (some ⟨w3.heap.size, 0, none⟩) 1 1) 1 (us [s.pn])) := Lib.hid ⟨by simp [us], .inr ⟨w3.heap.size, 0, 1, rfl, Nat.le_refl _, fun _ => by simp, fun j hj => by
      have hj0 : j = 0 := by omega
      subst hj0
      exact (IsBlk.new w3 [.int .u64 (s.pn : Int)] 28).cell 0⟩⟩
    go_frame
    go_wp2_with (at_builtin; refine wpList_append_sl _ rfl _ _ 37 rfl 28 i0 _ 1 8 und37 hi0 hy0 hy1 hy2 rfl (by omega) (.slice a ns.length c) ns.length (us ns) rfl (HSL.out.touch ((Touch.refl [] _).alloc _) (by simp)) (.slice (some ⟨w3.heap.size, 0, none⟩) 1 1) 1 (us [s.pn]) rfl HRD1.out (us_one _) (by unfold maxLen; omega) (by omega) fun a5 c5 w5 k1 k2 k3 k4 => ?_; have HT5 : Hid (Touch (own (.slice a ns.length c)) w3 w5) := Lib.hid (((Touch.refl (own (.slice a ns.length c)) w3).alloc _).trans k2 (fun g hg => .inl hg)); have HK5 := Lib.hid (HK4.out.touch HT5.out (fun hm => (HFR.out _ hm).2.1 rfl)); have j4 := HK5.out.cell 0; have j5 := HK5.out.frozen 0; have j6 := HK5.out.lt; simp only [List.getElem?_cons_zero] at j4; have K1 := Lib.hid k1; have K3 := Lib.hid k3; clear k1 k2 k3 k4)
    go_ret
    have hTb : Touch [b4] w5 (w5.setCell ⟨b4, 0, none⟩ (.slice a5 (ns.length + 1) c5)) := (Touch.refl [b4] w5).set (.inl (by simp)) _
    have hz3 : (w3.alloc (.cells #[.int .u64 (s.pn : Int)] 28)).heap.size = w3.heap.size + 1 := by simp
    have hns' : pns (goneL σ.opens (fun x => hasB x L) (i + 1)) = ns ++ [s.pn] := by rw [goneL_go HS.out HB.out.symm, HNS.out]; unfold pns; rw [List.map_append]; rfl
    have s0 := A1.out.touch.size
    have s2 := HT2.out.size
    have s3 := HT3.out.size
    have s5 := HT5.out.size
    have b1l := A1.out.k1.lt
    have b2l := A1.out.k2.lt
    have b3l := A1.out.k3.lt
    have hno : ∀ g ∈ own (.slice a5 (ns.length + 1) c5), w0.heap.size ≤ g ∧ g ≠ b4 ∧ g ∉ [b1, b2, b3] := fun g hg => by
      rcases K3.out g hg with h | h
      · exact HFR.out g h
      · rw [hz3] at h
        exact ⟨by omega, by omega, by simp; omega⟩
    have hot : ∀ g ∈ own (.slice a ns.length c), g ∉ [b1, b2, b3] ∧ w0.heap.size ≤ g := fun g hg => ⟨(HFR.out g hg).2.2, (HFR.out g hg).1⟩
    have hT35 : Touch (mb :: own (.slice ao σ.opens.length co)) w0 w5 := ((A1.out.touch.trans HT2.out (fun g hg => .inr (by simp at hg; omega))).trans HT3.out (fun g hg => .inl (by simp at hg; simp [hg]))).trans HT5.out (fun g hg => .inr (hot g hg).2)
    have kb : ∀ b, b ∈ [b1, b2, b3] → b ∉ own (.slice a ns.length c) := fun b hb hm => (hot b hm).1 hb
    refine ⟨rfl, ⟨?_, ?_, ?_, ?_, ?_, ?_, ?_, ?_⟩, ?_⟩
    · exact ((HK1.out.touch HT3.out (by simp; omega)).touch HT5.out (kb _ (by simp))).touch hTb (by simp; exact e2)
    · exact ((HRD.out.touch HT3.out (fun g hg hm => (HF.out.rng g hg).2.1 (by simpa using hm))).touch HT5.out (fun g hg hm => by have := (HF.out.rng g hg).1; have := (hot g hm).2; omega)).touch hTb (fun g hg hm => by have := (HF.out.rng g hg).1; simp at hm; omega)
    · exact ((HK2.out.touch HT3.out (by simp; omega)).touch HT5.out (kb _ (by simp))).touch hTb (by simp; exact e4)
    · rw [goneL_go HS.out HB.out.symm, List.getLast?_append]
      exact ((HK3.out.touch HT3.out (by simp; omega)).touch HT5.out (kb _ (by simp))).touch hTb (by simp; exact e5)
    · rw [hns']
      have el : (ns ++ [s.pn]).length = ns.length + 1 := by simp
      refine ⟨a5, c5, ?_, ?_, n4, ?_⟩
      · rw [el]; exact HK5.out.set 0 _
      · rw [el, us_app]; exact K1.out.touch hTb (fun g hg hm => (hno g hg).2.1 (by simpa using hm))
      · rw [el]; exact hno
    · exact ((HP2.out.touch HT3.out (by simp; exact HF.out.pm)).touch HT5.out (fun hm => by have := (hot _ hm).2; omega)).touch hTb (by simp; omega)
    · exact (HM3.out.touch HT5.out (fun hm => by have := (hot _ hm).2; omega)).touch hTb (by simp; omega)
    · exact hT35.trans hTb (fun g hg => .inr (by simp at hg; omega))
    · have hk1 : Keeps (own (.slice ao σ.opens.length co)) w w1 := Keeps.of HT.out (fun g hg => ⟨HOL.out g hg, by simp⟩)
      have hor := HF.out.ord
      have ho1 : ∀ g ∈ own (.slice ao σ.opens.length co), g < w1.heap.size := fun g hg => by have := HOL.out g hg; have := HT.out.size; omega
      have hk2 : Keeps (own (.slice ao σ.opens.length co)) w1 W2 := Keeps.of HT2.out (fun g hg => ⟨ho1 g hg, by have := (hor g hg).1; simp; omega⟩)
      have hk3 : Keeps (own (.slice ao σ.opens.length co)) W2 w3 := Keeps.of HT3.out (fun g hg => ⟨by have := ho1 g hg; omega, by have := (hor g hg).2.2; simp; exact this⟩)
      have hk5 : Keeps (own (.slice ao σ.opens.length co)) w3 w5 := Keeps.of HT5.out (fun g hg => ⟨by have := ho1 g hg; omega, fun hm => by have := (hor g hg).1; have := (hot g hm).2; omega⟩)
      exact (((hk1.trans hk2).trans hk3).trans hk5).trans (Keeps.of hTb (fun g hg => ⟨by have := ho1 g hg; omega, by have := (hor g hg).1; simp; omega⟩))
end Go.Proofs.Ythnokfchebmjiaa
