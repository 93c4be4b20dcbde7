/- The contract of lost. Conditions: the ledger is in order. -/
import Derived.Test.YthnokfchebmjiaaZ
import Derived.Test.YthnokfchebmjiaaD44
import Derived.Test.YthnokfchebmjiaaD25
import Derived.Test.YthnokfchebmjiaaH
namespace Go.Proofs.Ythnokfchebmjiaa
open Go.RowKit

def waitL (σ : Ldg) : Nat := max (9 * max σ.smooth σ.latest / 8) 1
def lostL (σ : Ldg) (now : Nat) : List Pkt := σ.opens.filter fun s => lostB σ (waitL σ) now s
def lostS (σ : Ldg) (now : Nat) : Ldg := { σ with opens := σ.opens.filter fun s => !lostB σ (waitL σ) now s }
theorem left_ok {σ : Ldg} (h : σ.Ok) (d : Pkt → Bool) : Ldg.Ok { σ with opens := σ.opens.filter d } := by
  refine ⟨h.rise.sublist List.filter_sublist, fun s hs => h.each s ((List.mem_filter.1 hs).1), h.sent, h.most, h.last, h.largest, h.times, ?_, h.nsent, h.tot⟩
  have := List.length_filter_le d σ.opens
  have := h.nopen
  show (σ.opens.filter d).length ≤ σ.tot
  omega
theorem lost_gone {σ : Ldg} (h : σ.Ok) (wait now : Nat) : (σ.opens.filter fun s => lostD σ wait now s.pn) = σ.opens.filter fun s => lostB σ wait now s := List.filter_congr (fun _ hs => lostD_at h hs wait now)
theorem lost_left {σ : Ldg} (h : σ.Ok) (wait now : Nat) : (σ.opens.filter fun s => !lostD σ wait now s.pn) = σ.opens.filter fun s => !lostB σ wait now s := List.filter_congr (fun _ hs => by rw [lostD_at h hs wait now])
theorem pns_at {l : List Pkt} {i x : Nat} (h : (pns l)[i]? = some x) : ∃ s, l[i]? = some s ∧ s.pn = x := by
  unfold pns at h
  rw [List.getElem?_map] at h
  cases hs : l[i]? with
  | none => rw [hs] at h; cases h
  | some s => rw [hs] at h; simp at h; exact ⟨s, rfl, h⟩
/-- A step that makes no new block the ledger's. -/
def StepK (w : World) (p : Nat) (F : List Nat) (σ : Ldg) (w' : World) : Prop := ∃ F', IsL w' p F' σ ∧ Touch F w w' ∧ ∀ g ∈ F', g ∈ F
/-- The order's slice and the map were cut down, then the head was laid anew. -/
theorem IsL.cut {w w1 w2 : World} {p mb q m n : Nat} {ao a' : Option Addr} {co c' : Nat} {F Fq : List Nat} {σ τ : Ldg} (hF : F = p :: mb :: (own (.slice ao σ.opens.length co) ++ Fq)) (hq : IsS w q 79 Fq σ.sent 0) (d1 : p ≠ mb ∧ p ∉ own (.slice ao σ.opens.length co) ∧ p ∉ Fq) (d2 : mb ∉ own (.slice ao σ.opens.length co) ∧ mb ∉ Fq) (d3 : ∀ g ∈ own (.slice ao σ.opens.length co), g ∉ Fq)
    (hT1 : Touch (mb :: own (.slice ao σ.opens.length co)) w w1) (hS : Sl w1 28 1 (.slice a' n c') n (us (pns τ.opens))) (hn : n = τ.opens.length) (ho : ∀ g ∈ own (.slice a' n c'), g ∈ own (.slice ao σ.opens.length co)) (hM : IsM w1 mb m (fnd τ.opens))
    (hT2 : Touch [p] w1 w2) (hB : IsBlk w2 p (lcells τ mb a' c' q) 64) (e2 : τ.sent = σ.sent) (e3 : m ≤ τ.tot) (hok : τ.Ok) : StepK w p F τ w2 := by
  subst hn
  refine ⟨p :: mb :: (own (.slice a' τ.opens.length c') ++ Fq), ⟨mb, a', c', q, Fq, m, hB, hM.touch hT2 (by simp; exact fun e => d1.1 e.symm), hS.touch hT2 (fun g hg hm => d1.2.1 (by simp at hm; rw [← hm]; exact ho g hg)), ?_, rfl, ⟨d1.1, fun hm => d1.2.1 (ho p hm), d1.2.2⟩, ⟨fun hm => d2.1 (ho mb hm), d2.2⟩, fun g hg => d3 g (ho g hg), hok, e3⟩, ?_, ?_⟩
  · rw [e2]
    exact (hq.touch hT1 (fun g hg hm => by
      rcases List.mem_cons.1 hm with rfl | hm
      · exact d2.2 hg
      · exact d3 g hm hg)).touch hT2 (fun g hg hm => by simp at hm; subst hm; exact d1.2.2 hg)
  · rw [hF]
    exact (hT1.mono (fun g hg => .inl (by
      rcases List.mem_cons.1 hg with rfl | hg
      · simp
      · simp [hg]))).trans hT2 (fun g hg => .inl (by simp at hg; simp [hg]))
  · intro g hg
    rw [hF]
    simp only [List.mem_cons, List.mem_append] at hg ⊢
    rcases hg with h | h | h | h
    · exact .inl h
    · exact .inr (.inl h)
    · exact .inr (.inr (.inl (ho g h)))
    · exact .inr (.inr (.inr h))

set_option maxHeartbeats 4000000 in
theorem lost_any (w : World) (p : Nat) (F : List Nat) (σ : Ldg) (now : Nat) (h : IsL w p F σ) (hn : now < 18446744073709551616) :
    Calls Try.prog 28 #[.pointer (some ⟨p, 0, none⟩), .int .u64 (now : Int)] w fun e w' => ∃ v, e = .returned v ∧ Sl w' 28 1 v (lostL σ now).length (us (pns (lostL σ now))) ∧ StepK w p F (lostS σ now) w' ∧ ∀ g ∈ own v, w.heap.size ≤ g := by
  have HLT := Lib.hid h.lt
  obtain ⟨mb, ao, co, q, Fq, m, h1, h2, h3, h4, hF, d1, d2, d3, hok, hm⟩ := h
  have HF := Lib.hid hF
  have H1 := Lib.hid h1
  have HQ := Lib.hid (And.intro h2 (And.intro h3 (And.intro h4 (And.intro d1 (And.intro d2 (And.intro d3 (And.intro hok hm)))))))
  obtain ⟨t1, t2, t3, t4⟩ := hok.times
  have c1 := h1.cell 1
  have c6 := h1.cell 6
  have c9 := h1.cell 9
  have hl := h1.lt
  simp only [lcells, List.getElem?_cons_zero, List.getElem?_cons_succ] at c1 c6 c9
  obtain ⟨wt, hwt⟩ : ∃ wt, wt = waitL σ := ⟨_, rfl⟩
  have HWT := Lib.hid hwt
  have hwb : wt ≤ 4398046511104 := by rw [hwt]; unfold waitL; omega
  obtain ⟨mm, hmm⟩ : ∃ mm, mm = max σ.smooth σ.latest := ⟨_, rfl⟩
  have m1 : max (σ.smooth : Int) (σ.latest : Int) = (mm : Int) := by omega
  have mb2 : mm ≤ 1099511627776 := by omega
  obtain ⟨k9, hk9⟩ : ∃ k9, k9 = 9 * mm := ⟨_, rfl⟩
  obtain ⟨qt, hqt⟩ : ∃ qt, qt = k9 / 8 := ⟨_, rfl⟩
  have m2 : IntKind.u64.wrap (9 * (mm : Int)) = (k9 : Int) := by rw [IntWalk.u64_in _ (by omega)]; omega
  have m3 : Int.tdiv (k9 : Int) 8 = (qt : Int) := by rw [Int.tdiv_eq_ediv_of_nonneg (by omega)]; omega
  have m3' : (k9 : Int) / 8 = (qt : Int) := by omega
  have m4 : IntKind.u64.wrap (qt : Int) = (qt : Int) := IntWalk.u64_in _ (by omega)
  have m5 : max (qt : Int) 1 = (wt : Int) := by rw [hwt]; unfold waitL; rw [← hmm]; omega
  clear h1 h2 h3 h4 hF d1 d2 d3 hok hm hwt hmm hk9 hqt
  go_enter Try.func28, Try.ntmps28
  go_upto_region 1 with fail
  obtain ⟨W1, hW1⟩ : ∃ W1, W1 = (w.alloc (.cells #[.pointer (some ⟨p, 0, none⟩)] 24)).alloc (.cells #[.int .u64 (now : Int)] 28) := ⟨_, rfl⟩
  rw [← hW1]
  have HT1 : Hid (Touch [] w W1) := Lib.hid (by rw [hW1]; exact ((Touch.refl _ _).alloc _).alloc _)
  have HK1 : Hid (IsBlk W1 w.heap.size [.pointer (some ⟨p, 0, none⟩)] 24) := Lib.hid (by rw [hW1]; exact (IsBlk.new w [.pointer (some ⟨p, 0, none⟩)] 24).touch (ks := []) ((Touch.refl _ _).alloc _) (by simp))
  have HK3 : Hid (IsBlk W1 (w.heap.size + 1) [.int .u64 (now : Int)] 28) := Lib.hid (by
    have := IsBlk.new (w.alloc (.cells #[.pointer (some ⟨p, 0, none⟩)] 24)) [.int .u64 (now : Int)] 28
    rw [World.size_alloc] at this
    rw [hW1]
    exact this)
  have HZ1 : Hid (W1.heap.size = w.heap.size + 2) := Lib.hid (by rw [hW1]; simp)
  have HP1 := Lib.hid (H1.out.touch HT1.out (by simp))
  clear hW1 c1 c6 c9 hl
  have c0 := HK1.out.cell 0
  have c6 := HP1.out.cell 6
  have c9 := HP1.out.cell 9
  have hl := HP1.out.lt
  have kl := HK1.out.lt
  simp only [lcells, List.getElem?_cons_zero, List.getElem?_cons_succ] at c0 c6 c9
  have n0 := World.new_ne W1 _ c0
  have n6 := World.new_ne W1 _ c6
  have n9 := World.new_ne W1 _ c9
  go_cut [5] (fun s5 wx => s5 = .pointer (some ⟨W1.heap.size, 0, none⟩) ∧ Hid (Touch [] W1 wx) ∧ Hid (IsBlk wx W1.heap.size [.int .u64 (wt : Int)] 28) ∧ Hid (W1.heap.size < wx.heap.size))
  case first =>
    go_region_held3 (fun w' => w'.cell? ⟨w.heap.size, 0, none⟩ = some (.pointer (some ⟨p, 0, none⟩)) ∧ w'.cell? ⟨p, 6, none⟩ = some (.int .u64 (σ.smooth : Int)) ∧ w'.cell? ⟨p, 9, none⟩ = some (.int .u64 (σ.latest : Int))) (go_keep) (fail)
    all_goals go_wp2_with fail
    all_goals go_meet
    all_goals
      case rel => exact ⟨rfl, Lib.hid (((Touch.refl _ _).alloc _).drew), Lib.hid ((IsBlk.new W1 [.int .u64 (wt : Int)] 28).touch (ks := []) ((Touch.refl _ _).drew) (by simp)), Lib.hid (by simp [World.drew])⟩
  case rest =>
  obtain ⟨rfl, HT2, HK2, HZ2⟩ := hcut
  clear c0 c6 c9 hl kl n0 n6 n9 m1 m2 m3 m3' m4 m5
  go_upto_region 3 with fail
  obtain ⟨W3, hW3⟩ : ∃ W3, W3 = wc.alloc (.cells #[.slice none 0 0] 37) := ⟨_, rfl⟩
  rw [← hW3]
  have HK4 : Hid (IsBlk W3 wc.heap.size [.slice none 0 0] 37) := Lib.hid (by rw [hW3]; exact IsBlk.new wc _ _)
  have HT3 : Hid (Touch [] wc W3) := Lib.hid (by rw [hW3]; exact (Touch.refl _ _).alloc _)
  have HTW : Hid (Touch [] w W3) := Lib.hid ((HT1.out.trans HT2.out (by simp)).trans HT3.out (by simp))
  have HFX : Hid (Fixed w p mb w.heap.size W1.heap.size (w.heap.size + 1) wc.heap.size ao co σ (.slice none 0 0)) := Lib.hid (by
    obtain ⟨h2, h3, h4, d1, d2, d3, hok, hm⟩ := HQ.out
    have z1 := HZ1.out
    have z2 := HZ2.out
    exact ⟨hok, H1.out.lt, h2.lt, d1.1, fun g hg => ⟨h3.lt g hg, fun e => d1.2.1 (by rw [← e]; exact hg), fun e => d2.1 (by rw [← e]; exact hg)⟩, by simp, ⟨by omega, by omega, by omega, by omega⟩, ⟨by omega, by omega, by omega, by omega, by omega⟩⟩)
  have HLO : Hid (Losing w W3.drew p mb q w.heap.size W1.heap.size (w.heap.size + 1) wc.heap.size ao co σ wt now m 0) := Lib.hid (by
    have hd : Touch [] W3 W3.drew := (Touch.refl _ _).drew
    have z1 := HZ1.out
    have z2 := HZ2.out
    refine ⟨((HK1.out.touch HT2.out (by simp)).touch HT3.out (by simp)).touch hd (by simp), (HK2.out.touch HT3.out (by simp)).touch hd (by simp), ((HK3.out.touch HT2.out (by simp)).touch HT3.out (by simp)).touch hd (by simp), ?_, (H1.out.touch HTW.out (by simp)).touch hd (by simp), ?_, (HTW.out.trans hd (by simp)).mono (by simp)⟩
    · rw [goneL_zero]
      exact ⟨none, 0, HK4.out.touch hd (by simp), Sl.nil _ _ _, by omega, by simp [pns]⟩
    · rw [restL_zero]
      exact (HQ.out.1.touch HTW.out (by simp)).touch hd (by simp))
  have HDEL := Lib.hid (delete44 W3.drew (.pointer (some ⟨w.heap.size, 0, none⟩)) (.pointer (some ⟨W1.heap.size, 0, none⟩)) (.pointer (some ⟨w.heap.size + 1, 0, none⟩)) (.pointer (some ⟨wc.heap.size, 0, none⟩)) ao σ.opens.length co (pns σ.opens) (lostD σ wt now) (fun i w' => Losing w w' p mb q w.heap.size W1.heap.size (w.heap.size + 1) wc.heap.size ao co σ wt now m i) (HQ.out.2.1.touch (HTW.out.drew) (by simp)) (by have := HQ.out.2.2.2.2.2.2.1.nopen; have := HQ.out.2.2.2.2.2.2.1.tot; omega) HLO.out (fun i x w' hx hi => by
    obtain ⟨s, hs, rfl⟩ := pns_at hx
    exact lost1_any w w' p mb q _ _ _ _ co m i wt now ao σ s HFX.out hi hs hwb hn) (fun i w1 w2 hi hT => hi.order HFX.out hT))
  clear hW3
  have hbp : w.heap.size ≠ p := by have := H1.out.lt; omega
  have c0 := (HK1.out.touch ((HT2.out.trans HT3.out (by simp))) (by simp)).cell 0
  have c1 := (H1.out.touch HTW.out (by simp)).cell 1
  have kl := (HK1.out.touch ((HT2.out.trans HT3.out (by simp))) (by simp)).lt
  have hl := (H1.out.touch HTW.out (by simp)).lt
  simp only [lcells, List.getElem?_cons_zero, List.getElem?_cons_succ] at c0 c1
  -- @@HOLD
  refine wp_region_hold (fun w' => w'.cell? ⟨w.heap.size, 0, none⟩ = some (.pointer (some ⟨p, 0, none⟩))) (fun w' => w'.cell? ⟨p, 1, none⟩ = some (.slice ao σ.opens.length co)) [9] [false, false, false, false, false, false, false, false, false, false] (by kernel_rfl) (by kernel_rfl) (by go_keep) (by go_keep) (fun hS => ?_)
  refine takeG (i := 0) (v := ?_) rfl (by kernel_rfl) (by kernel_rfl) (by kernel_rfl) (by kernel_rfl) (fun _ _ _ h => h) (Or.inl ⟨by rfl, ?_⟩) hS (fun hT => ?_)
  rotate_left
  · intro w hC; (try dsimp only at hC); go_simp; try with_reducible rfl
  clear hS
  have hS := hT
  clear hT
  simp only [Act.put, List.setIfInBounds_toArray, List.set_cons_zero] at hS ⊢
  refine takeG (i := 1) (v := ?_) rfl (by kernel_rfl) (by kernel_rfl) (by kernel_rfl) (by kernel_rfl) (fun _ _ _ h => h) (Or.inl ⟨by rfl, ?_⟩) hS (fun hT => ?_)
  rotate_left
  · intro w hC; (try dsimp only at hC); go_simp; try with_reducible rfl
  clear hS
  have hS := hT
  clear hT
  simp only [Act.put, List.setIfInBounds_toArray, List.set_cons_zero, List.set_cons_succ] at hS ⊢
  refine takeG (i := 2) (v := ?_) rfl (by kernel_rfl) (by kernel_rfl) (by kernel_rfl) (by kernel_rfl) (fun _ _ _ h => h) (Or.inl ⟨by rfl, ?_⟩) hS (fun hT => ?_)
  rotate_left
  · intro w hC; (try dsimp only at hC); go_simp; try with_reducible rfl
  clear hS
  have hS := hT
  clear hT
  simp only [Act.put, List.setIfInBounds_toArray, List.set_cons_zero, List.set_cons_succ] at hS ⊢
  refine takeG (i := 3) (v := ?_) rfl (by kernel_rfl) (by kernel_rfl) (by kernel_rfl) (by kernel_rfl) (fun _ _ _ h => h) (Or.inl ⟨by rfl, ?_⟩) hS (fun hT => ?_)
  rotate_left
  · intro w hC; (try dsimp only at hC); go_simp; try with_reducible rfl
  clear hS
  have hS := hT
  clear hT
  simp only [Act.put, List.setIfInBounds_toArray, List.set_cons_zero, List.set_cons_succ] at hS ⊢
  refine takeG1 (i := 4) (v := ?_) rfl (by kernel_rfl) (by kernel_rfl) (by kernel_rfl) (by kernel_rfl) (by kernel_rfl) (by kernel_rfl) (fun _ _ _ h => h) (Or.inl ⟨by rfl, ?_⟩) hS (fun hT => ?_)
  rotate_left
  · intro w hC; (try dsimp only at hC); go_simp; try with_reducible rfl
  clear hS
  have hS := hT
  clear hT
  simp only [Act.put, List.setIfInBounds_toArray, List.set_cons_zero, List.set_cons_succ] at hS ⊢
  refine takeG (i := 5) (v := ?_) rfl (by kernel_rfl) (by kernel_rfl) (by kernel_rfl) (by kernel_rfl) (fun _ _ _ h => h) (Or.inl ⟨by rfl, ?_⟩) hS (fun hT => ?_)
  rotate_left
  · intro w hC; (try dsimp only at hC); go_simp; try with_reducible rfl
  clear hS
  have hS := hT
  clear hT
  simp only [Act.put, List.setIfInBounds_toArray, List.set_cons_zero, List.set_cons_succ] at hS ⊢
  refine oneG (i := 6) (by kernel_rfl) rfl (fun K hK => ?_)
  (go_simp; go_at_call 24; refine HDEL.out.mono ?_; rintro e w5 ⟨a', c', rfl, k1, k2, k3⟩; have K1 := Lib.hid k1; have K2 := Lib.hid k2; have K3 := Lib.hid k3; have e0 := k3.k1.cell 0; have e1 := k3.head.cell 1; have e2 := k3.head.frozen 1; have e3 := k3.head.lt; have e4 := k3.k1.lt; simp only [lcells, List.getElem?_cons_zero, List.getElem?_cons_succ] at e0 e1; clear k1 k2 k3)
  refine hK.out _ _ ⟨?_, fun hu => ?_⟩ (fun hT => ?_)
  · exact e0
  · exact e1
  clear hS
  have hS := hT
  clear hT
  simp only [List.setIfInBounds_toArray, List.set_cons_zero, List.set_cons_succ] at hS ⊢
  clear hK K
  refine takeG (i := 7) (v := ?_) rfl (by kernel_rfl) (by kernel_rfl) (by kernel_rfl) (by kernel_rfl) (fun _ _ _ h => h) (Or.inl ⟨by rfl, ?_⟩) hS (fun hT => ?_)
  rotate_left
  · intro w hC; (try dsimp only at hC); go_simp; try with_reducible rfl
  clear hS
  have hS := hT
  clear hT
  simp only [Act.put, List.setIfInBounds_toArray, List.set_cons_zero, List.set_cons_succ] at hS ⊢
  refine takeG (i := 8) (v := ?_) rfl (by kernel_rfl) (by kernel_rfl) (by kernel_rfl) (by kernel_rfl) (fun _ _ _ h => h) (Or.inl ⟨by rfl, ?_⟩) hS (fun hT => ?_)
  rotate_left
  · intro w hC; (try dsimp only at hC); go_simp; try with_reducible rfl
  clear hS
  have hS := hT
  clear hT
  simp only [Act.put, List.setIfInBounds_toArray, List.set_cons_zero, List.set_cons_succ] at hS ⊢
  refine oneG (i := 9) (by kernel_rfl) rfl (fun K hK => ?_)
  go_simp
  refine hK.out _ _ ⟨?_, fun hu => ?_⟩ (fun hT => ?_)
  · exact (World.cell?_setCell_far _ _ _ _ (fun e => hbp (by simpa using e.symm))).trans e0
  · exact absurd hu (by decide)
  clear hS
  have hS := hT
  clear hT
  simp only [List.setIfInBounds_toArray, List.set_cons_zero, List.set_cons_succ] at hS ⊢
  clear hK K
  refine wpAnyG_done (by kernel_rfl) ?_ _
  clear hS
  obtain ⟨hx1, hx2, hx3, d1, d2, d3, hok, hmt⟩ := HQ.out
  have HE1 : Hid (kept (lostD σ wt now) (pns σ.opens) σ.opens.length = pns (lostS σ now).opens) := Lib.hid (by rw [pns_kept, lost_left hok, HWT.out]; rfl)
  have HE2 : Hid (goneL σ.opens (lostD σ wt now) σ.opens.length = lostL σ now) := Lib.hid (by rw [goneL_all, lost_gone hok, HWT.out]; rfl)
  have HE3 : Hid (restL σ.opens (lostD σ wt now) σ.opens.length = (lostS σ now).opens) := Lib.hid (by rw [restL_all, lost_left hok, HWT.out]; rfl)
  rw [HE1.out] at K1 K2 ⊢
  have HBX := Lib.hid K3.out.box
  rw [HE2.out] at HBX
  have HMP := Lib.hid K3.out.map
  rw [HE3.out] at HMP
  obtain ⟨a4, c4, g1, g2, g3, g4⟩ := HBX.out
  have hT5 : Touch [p] w5 (w5.setCell ⟨p, 1, none⟩ (.slice a' (pns (lostS σ now).opens).length c')) := (Touch.refl [p] w5).set (.inl (by simp)) _
  have hb4p : wc.heap.size ≠ p := by have := H1.out.lt; have := HFX.out.far.2.2.2; omega
  have HB4 := Lib.hid (g1.touch hT5 (by simp; exact hb4p))
  have HS4 := Lib.hid (g2.touch hT5 (fun g hg hm => by have := (g4 g hg).1; have := H1.out.lt; simp at hm; omega))
  have HG4 := Lib.hid g4
  have HT5 := Lib.hid hT5
  have HKS : Hid (StepK w p F (lostS σ now) (w5.setCell ⟨p, 1, none⟩ (.slice a' (pns (lostS σ now).opens).length c'))) := Lib.hid (by
    refine IsL.cut (w1 := w5) (n := (pns (lostS σ now).opens).length) HF.out hx3 d1 d2 d3 K3.out.touch K1.out (pns_len _) K2.out HMP.out hT5 ?_ rfl hmt (left_ok hok _)
    have := K3.out.head.set 1 (.slice a' (pns (lostS σ now).opens).length c')
    rw [pns_len] at this ⊢
    exact this)
  have b4 := HB4.out.cell 0
  have l4 := HB4.out.lt
  simp only [List.getElem?_cons_zero] at b4
  clear g1 g2 g3 g4 hT5 e0 e1 e2 e3 e4 hx1 hx2 hx3 d1 d2 d3
  go_wp2_with fail
  go_ret
  refine ⟨_, rfl, ?_, HKS.out, fun g hg => ?_⟩
  · rw [show (lostL σ now).length = (pns (lostL σ now)).length from (pns_len _).symm]
    exact HS4.out
  · exact (HG4.out g hg).1
end Go.Proofs.Ythnokfchebmjiaa
