/- What the closure of lost does at each packet. Conditions: the ledger is in order; the times are small. -/
import Derived.Test.YthnokfchebmjiaaX
namespace Go.Proofs.Ythnokfchebmjiaa
open Go.RowKit

def lostB (σ : Ldg) (wait now : Nat) (s : Pkt) : Bool := decide ((s.pn : Int) < σ.largest) && (decide (3 ≤ σ.largest - (s.pn : Int)) || decide (s.when_ + wait ≤ now))
def lostD (σ : Ldg) (wait now : Nat) (x : Nat) : Bool := match fnd σ.opens x with | some s => lostB σ wait now s | none => false
theorem lostD_at {σ : Ldg} (h : σ.Ok) {s : Pkt} (hs : s ∈ σ.opens) (wait now : Nat) : lostD σ wait now s.pn = lostB σ wait now s := by
  unfold lostD
  rw [fnd_some h.rise hs]
/-- While the packets are looked at: i of them were. -/
structure Losing (w0 w' : World) (p mb q b1 b2 b3 b4 : Nat) (ao : Option Addr) (co : Nat) (σ : Ldg) (wait now : Nat) (m i : Nat) : Prop where
  k1 : IsBlk w' b1 [.pointer (some ⟨p, 0, none⟩)] 24
  k2 : IsBlk w' b2 [.int .u64 (wait : Int)] 28
  k3 : IsBlk w' b3 [.int .u64 (now : Int)] 28
  box : Box w0 w' b4 (pns (goneL σ.opens (lostD σ wait now) i)) [b1, b2, b3]
  head : IsBlk w' p (lcells σ mb ao co q) 64
  map : IsM w' mb m (fnd (restL σ.opens (lostD σ wait now) i))
  touch : Touch (mb :: own (.slice ao σ.opens.length co)) w0 w'
section
variable {w0 w1 w2 : World} {p mb q b1 b2 b3 b4 co m i wait now : Nat} {ao : Option Addr} {σ : Ldg}
theorem Losing.keep (h : Losing w0 w1 p mb q b1 b2 b3 b4 ao co σ wait now m i) (hf : Fixed w0 p mb b1 b2 b3 b4 ao co σ (.slice none 0 0)) (hk : Touch [] w1 w2) : Losing w0 w2 p mb q b1 b2 b3 b4 ao co σ wait now m i := by
  obtain ⟨d1, d2, d3, d4, d5⟩ := hf.dif
  exact ⟨h.k1.touch hk (by simp), h.k2.touch hk (by simp), h.k3.touch hk (by simp), h.box.touch hk (by simp) (by simp; exact ⟨fun e => d2 e.symm, fun e => d4 e.symm, fun e => d5 e.symm⟩), h.head.touch hk (by simp), h.map.touch hk (by simp), h.touch.trans hk (by simp)⟩
theorem Losing.order (h : Losing w0 w1 p mb q b1 b2 b3 b4 ao co σ wait now m i) (hf : Fixed w0 p mb b1 b2 b3 b4 ao co σ (.slice none 0 0)) (hk : Touch (own (.slice ao σ.opens.length co)) w1 w2) : Losing w0 w2 p mb q b1 b2 b3 b4 ao co σ wait now m i := by
  obtain ⟨d1, d2, d3, d4, d5⟩ := hf.dif
  obtain ⟨f1, f2, f3, f4⟩ := hf.far
  have nb : ∀ b, w0.heap.size ≤ b → b ∉ own (.slice ao σ.opens.length co) := fun b hb hm => by have := (hf.ord b hm).1; omega
  exact ⟨h.k1.touch hk (nb _ f1), h.k2.touch hk (nb _ f2), h.k3.touch hk (nb _ f3), h.box.touch hk (fun g hg => .inl (hf.ord g hg).1) (by simp; exact ⟨fun e => d2 e.symm, fun e => d4 e.symm, fun e => d5 e.symm⟩), h.head.touch hk (fun hm => (hf.ord _ hm).2.1 rfl), h.map.touch hk (fun hm => (hf.ord _ hm).2.2 rfl), h.touch.trans hk (fun g hg => .inl (by simp [hg]))⟩
end

set_option maxHeartbeats 4000000 in
theorem lost1_any (w0 w : World) (p mb q b1 b2 b3 b4 co m i wait now : Nat) (ao : Option Addr) (σ : Ldg) (s : Pkt) (hf : Fixed w0 p mb b1 b2 b3 b4 ao co σ (.slice none 0 0)) (h : Losing w0 w p mb q b1 b2 b3 b4 ao co σ wait now m i) (hs : σ.opens[i]? = some s) (hw : wait ≤ 4398046511104) (hn : now < 18446744073709551616) :
    Calls Try.prog 44 #[.int .u64 (s.pn : Int), .pointer (some ⟨b1, 0, none⟩), .pointer (some ⟨b2, 0, none⟩), .pointer (some ⟨b3, 0, none⟩), .pointer (some ⟨b4, 0, none⟩)] w fun e w' => e = .returned (.bool (lostD σ wait now s.pn)) ∧ Losing w0 w' p mb q b1 b2 b3 b4 ao co σ wait now m (i + 1) ∧ Keeps (own (.slice ao σ.opens.length co)) w w' := by
  have H := Lib.hid h
  have HF := Lib.hid hf
  have HS := Lib.hid hs
  have hsm := hf.ok.small (List.mem_of_getElem? hs)
  have hwh := (hf.ok.each s (List.mem_of_getElem? hs)).2.1
  have HD := Lib.hid (lostD_at hf.ok (List.mem_of_getElem? hs) wait now)
  obtain ⟨lg1, lg2⟩ := hf.ok.largest
  have hla := hf.ok.last.2
  have hlk := h.map.look s.pn (by omega)
  rw [restL_find hf.ok.rise hs] at hlk
  simp only [Option.getD_some] at hlk
  unfold pktV at hlk
  have HOL : Hid (∀ g ∈ own (.slice ao σ.opens.length co), g < w.heap.size) := Lib.hid (fun g hg => by have := (hf.ord g hg).1; have := h.touch.size; omega)
  have c1 := h.k1.cell 0
  have c2 := h.k2.cell 0
  have c3 := h.k3.cell 0
  have l1 := h.k1.lt
  have l2 := h.k2.lt
  have l3 := h.k3.lt
  have d0 := h.head.cell 0
  have d4 := h.head.cell 4
  have l0 := h.head.lt
  simp only [lcells, List.getElem?_cons_zero, List.getElem?_cons_succ] at c1 c2 c3 d0 d4
  have hwp : IntKind.i64.wrap (s.pn : Int) = (s.pn : Int) := IntWalk.i64_in _ (by omega)
  have HFALSE : Hid (lostB σ wait now s = false → Touch [] w (w.alloc (.cells #[.int .u64 (s.pn : Int), .int .u64 (s.when_ : Int), .int .i64 (s.size : Int), .bool s.eager] 30)) → Losing w0 (w.alloc (.cells #[.int .u64 (s.pn : Int), .int .u64 (s.when_ : Int), .int .i64 (s.size : Int), .bool s.eager] 30)) p mb q b1 b2 b3 b4 ao co σ wait now m (i + 1) ∧ Keeps (own (.slice ao σ.opens.length co)) w (w.alloc (.cells #[.int .u64 (s.pn : Int), .int .u64 (s.when_ : Int), .int .i64 (s.size : Int), .bool s.eager] 30))) := Lib.hid (fun hb hT => by
    have h1 := H.out.keep HF.out hT
    have hd : lostD σ wait now s.pn = false := HD.out.trans hb
    refine ⟨⟨h1.k1, h1.k2, h1.k3, ?_, h1.head, ?_, h1.touch⟩, Keeps.of hT (fun g hg => ⟨HOL.out g hg, by simp⟩)⟩
    · rw [goneL_stay HS.out hd]; exact h1.box
    · rw [restL_stay HS.out hd]; exact h1.map)
  clear h hf hs
  rw [HD.out]
  by_cases hA : σ.largest ≤ (s.pn : Int)
  · have HB : Hid (lostB σ wait now s = false) := Lib.hid (by unfold lostB; rw [decide_eq_false (by omega)]; rfl)
    rw [HB.out]
    go_enter Try.func44, Try.ntmps44
    go_wp2_with fail
    go_ret
    exact ⟨rfl, HFALSE.out HB.out ((Touch.refl _ _).alloc _)⟩
  · by_cases hC : σ.largest - (s.pn : Int) < 3
    · by_cases hN : (now : Int) < (s.when_ : Int) + (wait : Int)
      · have HB : Hid (lostB σ wait now s = false) := Lib.hid (by unfold lostB; rw [decide_eq_false (show ¬ (3 ≤ σ.largest - (s.pn : Int)) by omega), decide_eq_false (show ¬ (s.when_ + wait ≤ now) by omega)]; simp)
        rw [HB.out]
        go_enter Try.func44, Try.ntmps44
        go_wp2_with fail
        go_ret
        exact ⟨rfl, HFALSE.out HB.out ((Touch.refl _ _).alloc _)⟩
      · have HB : Hid (lostB σ wait now s = true) := Lib.hid (by unfold lostB; rw [decide_eq_true (show (s.pn : Int) < σ.largest by omega), decide_eq_true (show (s.when_ + wait ≤ now) by omega)]; simp)
        rw [HB.out]
        go_enter Try.func44, Try.ntmps44
        go_upto_region 4 with fail
        obtain ⟨W2, hW2⟩ : ∃ W2, W2 = w.alloc (.cells #[.int .u64 (s.pn : Int), .int .u64 (s.when_ : Int), .int .i64 (s.size : Int), .bool s.eager] 30) := ⟨_, rfl⟩
        rw [← hW2]
        have HT2 : Hid (Touch [] w W2) := Lib.hid (by rw [hW2]; exact (Touch.refl _ _).alloc _)
        have A2 := Lib.hid (H.out.keep HF.out HT2.out)
        obtain ⟨e1, e2, e3, e4, e5⟩ := HF.out.dif
        obtain ⟨n1, n2, n3, n4⟩ := HF.out.far
        have hmb := HF.out.mlt
        have hpb := HF.out.plt
        clear hW2 hlk c1 c2 c3 l1 l2 l3 d0 d4 l0
        have c1 := A2.out.k1.cell 0
        have l1 := A2.out.k1.lt
        have d0 := A2.out.head.cell 0
        have l0 := A2.out.head.lt
        simp only [lcells, List.getElem?_cons_zero] at c1 d0
        go_upto_region 5 with (at_delete; refine wpList_dropM _ rfl _ _ rfl mb m _ rfl A2.out.map s.pn (by omega) rfl ?_; intro w3 hm3 ht3; have HM3 := Lib.hid hm3; have HT3 := Lib.hid ht3; clear hm3 ht3)
        rw [restL_go HF.out.ok.rise HS.out (HD.out.trans HB.out)] at HM3
        obtain ⟨ns, hns⟩ : ∃ ns, ns = pns (goneL σ.opens (lostD σ wait now) i) := ⟨_, rfl⟩
        have hnl : ns.length ≤ 100000 := by
          have h1 := goneL_len σ.opens (lostD σ wait now) i
          have h2 := HF.out.ok.nopen
          have h3 := HF.out.ok.tot
          rw [hns, pns_len]
          omega
        have HBX := Lib.hid A2.out.box
        rw [← hns] at HBX
        have HNS := Lib.hid hns
        clear hns
        obtain ⟨a, c, k1, k2, k3, k4⟩ := HBX.out
        have HK4 := Lib.hid (k1.touch HT3.out (by simp; omega))
        have HSL := Lib.hid (k2.touch HT3.out (fun g hg hm => by have := (k4 g hg).1; simp at hm; omega))
        have HFR := Lib.hid k4
        obtain ⟨i0, hi0, hy0, hy1, hy2⟩ := info_parts info28
        clear k1 k2 k3 k4 c1 l1 d0 l0
        have d4 := HK4.out.cell 0
        have f4 := HK4.out.frozen 0
        have l4 := HK4.out.lt
        simp only [List.getElem?_cons_zero] at d4
        have HRD1 : Hid (Rd (w3.alloc (.cells #[.int .u64 (s.pn : Int)] 28)) 1 (.slice (some ⟨w3.heap.size, 0, none⟩) 1 1) 1 (us [s.pn])) := Lib.hid ⟨by simp [us], .inr ⟨w3.heap.size, 0, 1, rfl, Nat.le_refl _, fun _ => by simp, fun j hj => by
          have hj0 : j = 0 := by omega
          subst hj0
          exact (IsBlk.new w3 [.int .u64 (s.pn : Int)] 28).cell 0⟩⟩
        go_frame
        go_wp2_with (at_builtin; refine wpList_append_sl _ rfl _ _ 37 rfl 28 i0 _ 1 8 und37 hi0 hy0 hy1 hy2 rfl (by omega) (.slice a ns.length c) ns.length (us ns) rfl (HSL.out.touch ((Touch.refl [] _).alloc _) (by simp)) (.slice (some ⟨w3.heap.size, 0, none⟩) 1 1) 1 (us [s.pn]) rfl HRD1.out (us_one _) (by unfold maxLen; omega) (by omega) fun a5 c5 w5 k1 k2 k3 k4 => ?_; have HT5 : Hid (Touch (own (.slice a ns.length c)) w3 w5) := Lib.hid (((Touch.refl (own (.slice a ns.length c)) w3).alloc _).trans k2 (fun g hg => .inl hg)); have HK5 := Lib.hid (HK4.out.touch HT5.out (fun hm => (HFR.out _ hm).2.1 rfl)); have j4 := HK5.out.cell 0; have j5 := HK5.out.frozen 0; have j6 := HK5.out.lt; simp only [List.getElem?_cons_zero] at j4; have K1 := Lib.hid k1; have K3 := Lib.hid k3; clear k1 k2 k3 k4)
        go_ret
        have hTb : Touch [b4] w5 (w5.setCell ⟨b4, 0, none⟩ (.slice a5 (ns.length + 1) c5)) := (Touch.refl [b4] w5).set (.inl (by simp)) _
        have hz3 : (w3.alloc (.cells #[.int .u64 (s.pn : Int)] 28)).heap.size = w3.heap.size + 1 := by simp
        have hdt := HD.out.trans HB.out
        have hns' : pns (goneL σ.opens (lostD σ wait now) (i + 1)) = ns ++ [s.pn] := by rw [goneL_go HS.out hdt, HNS.out]; unfold pns; rw [List.map_append]; rfl
        have s0 := A2.out.touch.size
        have s3 := HT3.out.size
        have s5 := HT5.out.size
        have b1l := A2.out.k1.lt
        have b2l := A2.out.k2.lt
        have b3l := A2.out.k3.lt
        have hno : ∀ g ∈ own (.slice a5 (ns.length + 1) c5), w0.heap.size ≤ g ∧ g ≠ b4 ∧ g ∉ [b1, b2, b3] := fun g hg => by
          rcases K3.out g hg with h | h
          · exact HFR.out g h
          · rw [hz3] at h
            exact ⟨by omega, by omega, by simp; omega⟩
        have hot : ∀ g ∈ own (.slice a ns.length c), g ∉ [b1, b2, b3] ∧ w0.heap.size ≤ g := fun g hg => ⟨(HFR.out g hg).2.2, (HFR.out g hg).1⟩
        have hT35 : Touch (mb :: own (.slice ao σ.opens.length co)) w0 w5 := (A2.out.touch.trans HT3.out (fun g hg => .inl (by simp at hg; simp [hg]))).trans HT5.out (fun g hg => .inr (hot g hg).2)
        have kb : ∀ b, b ∈ [b1, b2, b3] → b ∉ own (.slice a ns.length c) := fun b hb hm => (hot b hm).1 hb
        refine ⟨rfl, ⟨?_, ?_, ?_, ?_, ?_, ?_, ?_⟩, ?_⟩
        · exact ((A2.out.k1.touch HT3.out (by simp; omega)).touch HT5.out (kb _ (by simp))).touch hTb (by simp; exact e2)
        · exact ((A2.out.k2.touch HT3.out (by simp; omega)).touch HT5.out (kb _ (by simp))).touch hTb (by simp; exact e4)
        · exact ((A2.out.k3.touch HT3.out (by simp; omega)).touch HT5.out (kb _ (by simp))).touch hTb (by simp; exact e5)
        · rw [hns']
          have el : (ns ++ [s.pn]).length = ns.length + 1 := by simp
          refine ⟨a5, c5, ?_, ?_, n4, ?_⟩
          · rw [el]; exact HK5.out.set 0 _
          · rw [el, us_app]; exact K1.out.touch hTb (fun g hg hm => (hno g hg).2.1 (by simpa using hm))
          · rw [el]; exact hno
        · exact ((A2.out.head.touch HT3.out (by simp; exact HF.out.pm)).touch HT5.out (fun hm => by have := (hot _ hm).2; omega)).touch hTb (by simp; omega)
        · exact (HM3.out.touch HT5.out (fun hm => by have := (hot _ hm).2; omega)).touch hTb (by simp; omega)
        · exact hT35.trans hTb (fun g hg => .inr (by simp at hg; omega))
        · have hor := HF.out.ord
          have ho1 : ∀ g ∈ own (.slice ao σ.opens.length co), g < W2.heap.size := fun g hg => by have := HOL.out g hg; have := HT2.out.size; omega
          have hk2 : Keeps (own (.slice ao σ.opens.length co)) w W2 := Keeps.of HT2.out (fun g hg => ⟨HOL.out g hg, by simp⟩)
          have hk3 : Keeps (own (.slice ao σ.opens.length co)) W2 w3 := Keeps.of HT3.out (fun g hg => ⟨ho1 g hg, by have := (hor g hg).2.2; simp; exact this⟩)
          have hk5 : Keeps (own (.slice ao σ.opens.length co)) w3 w5 := Keeps.of HT5.out (fun g hg => ⟨by have := ho1 g hg; omega, fun hm => by have := (hor g hg).1; have := (hot g hm).2; omega⟩)
          exact ((hk2.trans hk3).trans hk5).trans (Keeps.of hTb (fun g hg => ⟨by have := ho1 g hg; omega, by have := (hor g hg).1; simp; omega⟩))
    · have HB : Hid (lostB σ wait now s = true) := Lib.hid (by unfold lostB; rw [decide_eq_true (show (s.pn : Int) < σ.largest by omega), decide_eq_true (show (3 ≤ σ.largest - (s.pn : Int)) by omega)]; simp)
      rw [HB.out]
      go_enter Try.func44, Try.ntmps44
      go_upto_region 4 with fail
      obtain ⟨W2, hW2⟩ : ∃ W2, W2 = w.alloc (.cells #[.int .u64 (s.pn : Int), .int .u64 (s.when_ : Int), .int .i64 (s.size : Int), .bool s.eager] 30) := ⟨_, rfl⟩
      rw [← hW2]
      have HT2 : Hid (Touch [] w W2) := Lib.hid (by rw [hW2]; exact (Touch.refl _ _).alloc _)
      have A2 := Lib.hid (H.out.keep HF.out HT2.out)
      obtain ⟨e1, e2, e3, e4, e5⟩ := HF.out.dif
      obtain ⟨n1, n2, n3, n4⟩ := HF.out.far
      have hmb := HF.out.mlt
      have hpb := HF.out.plt
      clear hW2 hlk c1 c2 c3 l1 l2 l3 d0 d4 l0
      have c1 := A2.out.k1.cell 0
      have l1 := A2.out.k1.lt
      have d0 := A2.out.head.cell 0
      have l0 := A2.out.head.lt
      simp only [lcells, List.getElem?_cons_zero] at c1 d0
      go_upto_region 5 with (at_delete; refine wpList_dropM _ rfl _ _ rfl mb m _ rfl A2.out.map s.pn (by omega) rfl ?_; intro w3 hm3 ht3; have HM3 := Lib.hid hm3; have HT3 := Lib.hid ht3; clear hm3 ht3)
      rw [restL_go HF.out.ok.rise HS.out (HD.out.trans HB.out)] at HM3
      obtain ⟨ns, hns⟩ : ∃ ns, ns = pns (goneL σ.opens (lostD σ wait now) i) := ⟨_, rfl⟩
      have hnl : ns.length ≤ 100000 := by
        have h1 := goneL_len σ.opens (lostD σ wait now) i
        have h2 := HF.out.ok.nopen
        have h3 := HF.out.ok.tot
        rw [hns, pns_len]
        omega
      have HBX := Lib.hid A2.out.box
      rw [← hns] at HBX
      have HNS := Lib.hid hns
      clear hns
      obtain ⟨a, c, k1, k2, k3, k4⟩ := HBX.out
      have HK4 := Lib.hid (k1.touch HT3.out (by simp; omega))
      have HSL := Lib.hid (k2.touch HT3.out (fun g hg hm => by have := (k4 g hg).1; simp at hm; omega))
      have HFR := Lib.hid k4
      obtain ⟨i0, hi0, hy0, hy1, hy2⟩ := info_parts info28
      clear k1 k2 k3 k4 c1 l1 d0 l0
      have d4 := HK4.out.cell 0
      have f4 := HK4.out.frozen 0
      have l4 := HK4.out.lt
      simp only [List.getElem?_cons_zero] at d4
      have HRD1 : Hid (Rd (w3.alloc (.cells #[.int .u64 (s.pn : Int)] 28)) 1 (.slice (some ⟨w3.heap.size, 0, none⟩) 1 1) 1 (us [s.pn])) := Lib.hid ⟨by simp [us], .inr ⟨w3.heap.size, 0, 1, rfl, Nat.le_refl _, fun _ => by simp, fun j hj => by
        have hj0 : j = 0 := by omega
        subst hj0
        exact (IsBlk.new w3 [.int .u64 (s.pn : Int)] 28).cell 0⟩⟩
      go_frame
      go_wp2_with (at_builtin; refine wpList_append_sl _ rfl _ _ 37 rfl 28 i0 _ 1 8 und37 hi0 hy0 hy1 hy2 rfl (by omega) (.slice a ns.length c) ns.length (us ns) rfl (HSL.out.touch ((Touch.refl [] _).alloc _) (by simp)) (.slice (some ⟨w3.heap.size, 0, none⟩) 1 1) 1 (us [s.pn]) rfl HRD1.out (us_one _) (by unfold maxLen; omega) (by omega) fun a5 c5 w5 k1 k2 k3 k4 => ?_; have HT5 : Hid (Touch (own (.slice a ns.length c)) w3 w5) := Lib.hid (((Touch.refl (own (.slice a ns.length c)) w3).alloc _).trans k2 (fun g hg => .inl hg)); have HK5 := Lib.hid (HK4.out.touch HT5.out (fun hm => (HFR.out _ hm).2.1 rfl)); have j4 := HK5.out.cell 0; have j5 := HK5.out.frozen 0; have j6 := HK5.out.lt; simp only [List.getElem?_cons_zero] at j4; have K1 := Lib.hid k1; have K3 := Lib.hid k3; clear k1 k2 k3 k4)
      go_ret
      have hTb : Touch [b4] w5 (w5.setCell ⟨b4, 0, none⟩ (.slice a5 (ns.length + 1) c5)) := (Touch.refl [b4] w5).set (.inl (by simp)) _
      have hz3 : (w3.alloc (.cells #[.int .u64 (s.pn : Int)] 28)).heap.size = w3.heap.size + 1 := by simp
      have hdt := HD.out.trans HB.out
      have hns' : pns (goneL σ.opens (lostD σ wait now) (i + 1)) = ns ++ [s.pn] := by rw [goneL_go HS.out hdt, HNS.out]; unfold pns; rw [List.map_append]; rfl
      have s0 := A2.out.touch.size
      have s3 := HT3.out.size
      have s5 := HT5.out.size
      have b1l := A2.out.k1.lt
      have b2l := A2.out.k2.lt
      have b3l := A2.out.k3.lt
      have hno : ∀ g ∈ own (.slice a5 (ns.length + 1) c5), w0.heap.size ≤ g ∧ g ≠ b4 ∧ g ∉ [b1, b2, b3] := fun g hg => by
        rcases K3.out g hg with h | h
        · exact HFR.out g h
        · rw [hz3] at h
          exact ⟨by omega, by omega, by simp; omega⟩
      have hot : ∀ g ∈ own (.slice a ns.length c), g ∉ [b1, b2, b3] ∧ w0.heap.size ≤ g := fun g hg => ⟨(HFR.out g hg).2.2, (HFR.out g hg).1⟩
      have hT35 : Touch (mb :: own (.slice ao σ.opens.length co)) w0 w5 := (A2.out.touch.trans HT3.out (fun g hg => .inl (by simp at hg; simp [hg]))).trans HT5.out (fun g hg => .inr (hot g hg).2)
      have kb : ∀ b, b ∈ [b1, b2, b3] → b ∉ own (.slice a ns.length c) := fun b hb hm => (hot b hm).1 hb
      refine ⟨rfl, ⟨?_, ?_, ?_, ?_, ?_, ?_, ?_⟩, ?_⟩
      · exact ((A2.out.k1.touch HT3.out (by simp; omega)).touch HT5.out (kb _ (by simp))).touch hTb (by simp; exact e2)
      · exact ((A2.out.k2.touch HT3.out (by simp; omega)).touch HT5.out (kb _ (by simp))).touch hTb (by simp; exact e4)
      · exact ((A2.out.k3.touch HT3.out (by simp; omega)).touch HT5.out (kb _ (by simp))).touch hTb (by simp; exact e5)
      · rw [hns']
        have el : (ns ++ [s.pn]).length = ns.length + 1 := by simp
        refine ⟨a5, c5, ?_, ?_, n4, ?_⟩
        · rw [el]; exact HK5.out.set 0 _
        · rw [el, us_app]; exact K1.out.touch hTb (fun g hg hm => (hno g hg).2.1 (by simpa using hm))
        · rw [el]; exact hno
      · exact ((A2.out.head.touch HT3.out (by simp; exact HF.out.pm)).touch HT5.out (fun hm => by have := (hot _ hm).2; omega)).touch hTb (by simp; omega)
      · exact (HM3.out.touch HT5.out (fun hm => by have := (hot _ hm).2; omega)).touch hTb (by simp; omega)
      · exact hT35.trans hTb (fun g hg => .inr (by simp at hg; omega))
      · have hor := HF.out.ord
        have ho1 : ∀ g ∈ own (.slice ao σ.opens.length co), g < W2.heap.size := fun g hg => by have := HOL.out g hg; have := HT2.out.size; omega
        have hk2 : Keeps (own (.slice ao σ.opens.length co)) w W2 := Keeps.of HT2.out (fun g hg => ⟨HOL.out g hg, by simp⟩)
        have hk3 : Keeps (own (.slice ao σ.opens.length co)) W2 w3 := Keeps.of HT3.out (fun g hg => ⟨ho1 g hg, by have := (hor g hg).2.2; simp; exact this⟩)
        have hk5 : Keeps (own (.slice ao σ.opens.length co)) w3 w5 := Keeps.of HT5.out (fun g hg => ⟨by have := ho1 g hg; omega, fun hm => by have := (hor g hg).1; have := (hot g hm).2; omega⟩)
        exact ((hk2.trans hk3).trans hk5).trans (Keeps.of hTb (fun g hg => ⟨by have := ho1 g hg; omega, by have := (hor g hg).1; simp; omega⟩))
end Go.Proofs.Ythnokfchebmjiaa
