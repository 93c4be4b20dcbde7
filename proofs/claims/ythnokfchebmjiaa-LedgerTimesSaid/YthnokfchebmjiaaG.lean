/- The contract of Send. Conditions: the ledger is in order; the packet's numbers are small. -/
import Derived.Test.YthnokfchebmjiaaF
namespace Go.Proofs.Ythnokfchebmjiaa
open Go.RowKit

theorem spOp_mem {A : List Rng} (hA : V A 0) (f l n : Nat) (hl : l ≤ mx) : inR n (spOp A 0 f l) ↔ inR n A ∨ (f ≤ n ∧ n ≤ l) := by
  unfold spOp
  split
  · next h => rw [sp_mem n A 0 _ _ hA h, show max f 0 = f from by omega, show min l mx = l from by omega]
  · next h =>
    constructor
    · exact .inl
    · rintro (h1 | h1)
      · exact h1
      · omega
def sendBad (σ : Ldg) (s : Pkt) : Bool := decide (mx < s.pn) || decide ((s.pn : Int) ≤ σ.last)
def sentS (σ : Ldg) (s : Pkt) : Ldg := { σ with opens := σ.opens ++ [s], sent := spOp σ.sent 0 s.pn s.pn, last := (s.pn : Int), tot := σ.tot + 1 }
theorem sentS_ok {σ : Ldg} (h : σ.Ok) {s : Pkt} (hb : sendBad σ s = false) (h1 : s.when_ ≤ 1099511627776) (h2 : s.size ≤ 1099511627776) (ht : σ.tot < 100000) : (sentS σ s).Ok := by
  unfold sendBad at hb
  simp at hb
  have hmx : mx = 4611686018427387903 := rfl
  have hla := h.largest
  refine ⟨?_, fun t ht => ?_, spOp_V h.sent _ _, fun x hx => ?_, ⟨by show -1 ≤ (s.pn : Int); omega, by show (s.pn : Int) ≤ _; omega⟩, ⟨hla.1, by show σ.largest ≤ (s.pn : Int); omega⟩, h.times, ?_, ?_, by show σ.tot + 1 ≤ 100000; omega⟩
  · refine List.pairwise_append.2 ⟨h.rise, by simp, fun a ha b hb => ?_⟩
    have := (h.each a ha).1
    simp at hb
    subst hb
    omega
  · show (t.pn : Int) ≤ (s.pn : Int) ∧ _
    rcases List.mem_append.1 (show t ∈ σ.opens ++ [s] from ht) with g | g
    · have := h.each t g
      exact ⟨by omega, this.2⟩
    · simp at g
      subst g
      exact ⟨Int.le_refl _, h1, h2⟩
  · show (x.2 : Int) ≤ (s.pn : Int)
    have hx : x ∈ spOp σ.sent 0 s.pn s.pn := hx
    have hv := (spOp_V h.sent s.pn s.pn).2 x hx
    rcases (spOp_mem h.sent s.pn s.pn x.2 (by omega)).1 ⟨x, hx, hv.2.1, Nat.le_refl _⟩ with ⟨y, hy, _, g2⟩ | g
    · have := h.most y hy
      omega
    · omega
  · show (σ.opens ++ [s]).length ≤ σ.tot + 1
    have := h.nopen
    simp
    omega
  · show (spOp σ.sent 0 s.pn s.pn).length ≤ σ.tot + 1
    have := h.nsent
    have := spOp_len σ.sent 0 s.pn s.pn
    omega
theorem send_add {σ : Ldg} (h : σ.Ok) {s : Pkt} (hb : sendBad σ s = false) : (addL 0 [s.pn] (σ.sent, 0)).1 = spOp σ.sent 0 s.pn s.pn := by
  unfold sendBad at hb
  simp at hb
  have hn : hasB s.pn σ.sent = false := by
    cases hh : hasB s.pn σ.sent with
    | false => rfl
    | true =>
      obtain ⟨y, hy, _, g2⟩ := (hasB_iff _ _).1 hh
      have := h.most y hy
      omega
  show (add1 0 (σ.sent, 0) s.pn).1 = _
  unfold add1
  rw [if_pos ⟨hb.1, Nat.zero_le _, hn⟩]
theorem fnd_snoc {σ : Ldg} (h : σ.Ok) {s : Pkt} (hb : sendBad σ s = false) : upd (fnd σ.opens) s.pn (some s) = fnd (σ.opens ++ [s]) := by
  unfold sendBad at hb
  simp at hb
  funext x
  unfold upd fnd
  rw [List.find?_append]
  by_cases hx : x = s.pn
  · subst hx
    rw [if_pos rfl]
    have : σ.opens.find? (fun t => t.pn == s.pn) = none := List.find?_eq_none.2 (fun t ht => by
      have := (h.each t ht).1
      simp
      omega)
    rw [this]
    simp
  · rw [if_neg hx]
    have : ([s].find? fun t => t.pn == x) = none := by simp; omega
    rw [this]
    simp

set_option maxHeartbeats 4000000 in
theorem send_any (w : World) (p : Nat) (F : List Nat) (σ : Ldg) (s : Pkt) (h : IsL w p F σ) (hs : s.Ok) (hw1 : s.when_ ≤ 1099511627776) (hw2 : s.size ≤ 1099511627776) (ht : σ.tot < 100000) :
    Calls Try.prog 10 #[.pointer (some ⟨p, 0, none⟩), pktV s] w fun e w' => e = .returned (.int .i64 (if sendBad σ s then 33 else 0)) ∧ StepL w p F (if sendBad σ s then σ else sentS σ s) w' := by
  have HH := Lib.hid h
  obtain ⟨mb, ao, co, q, Fq, m, h1, h2, h3, h4, hF, d1, d2, d3, hok, hm⟩ := h
  have HF := Lib.hid hF
  have H1 := Lib.hid h1
  have HQ := Lib.hid (And.intro h2 (And.intro h3 (And.intro h4 (And.intro d1 (And.intro d2 (And.intro d3 (And.intro hok hm)))))))
  have c3 := h1.cell 3
  have hl := h1.lt
  simp only [lcells, List.getElem?_cons_zero, List.getElem?_cons_succ] at c3
  have hla := hok.last
  have hpn := hs.1
  clear h1 h2 h3 h4 hF d1 d2 d3 hok hm hs
  unfold pktV
  by_cases hA : (4611686018427387903 : Int) < (s.pn : Int)
  · have HB : Hid (sendBad σ s = true) := Lib.hid (by unfold sendBad mx; simp; omega)
    rw [HB.out]
    go_enter Try.func10, Try.ntmps10
    go_wp2_with fail
    go_quiet (fail)
    go_wp2_with fail
    go_ret
    exact ⟨rfl, StepL.same HH.out (((Touch.refl _ _).alloc _).drewN _)⟩
  · have hwp : IntKind.i64.wrap (s.pn : Int) = (s.pn : Int) := IntWalk.i64_in _ (by omega)
    by_cases hB : (s.pn : Int) ≤ σ.last
    · have HB : Hid (sendBad σ s = true) := Lib.hid (by unfold sendBad; simp; exact .inr hB)
      rw [HB.out]
      go_enter Try.func10, Try.ntmps10
      go_wp2_with fail
      go_quiet (fail)
      go_wp2_with fail
      go_ret
      exact ⟨rfl, StepL.same HH.out (((Touch.refl _ _).alloc _).drewN _)⟩
    · have HB : Hid (sendBad σ s = false) := Lib.hid (by unfold sendBad mx; simp; omega)
      rw [HB.out]
      have f3 := H1.out.frozen 3
      go_enter Try.func10, Try.ntmps10
      go_wp2_with fail
      go_quiet (fail)
      go_upto_region 4 with fail
      obtain ⟨W1, hW1⟩ : ∃ W1, W1 = ((w.alloc (.cells #[.int .u64 (s.pn : Int), .int .u64 (s.when_ : Int), .int .i64 (s.size : Int), .bool s.eager] 30)).drewN nq).setCell ⟨p, 3, none⟩ (.int .i64 (s.pn : Int)) := ⟨_, rfl⟩
      rw [← hW1]
      have HT1 : Hid (Touch [p] w W1) := Lib.hid (by rw [hW1]; exact (((Touch.refl [p] w).alloc _).drewN _).set (.inl (by simp)) _)
      have HX1 : Hid (IsBlk W1 w.heap.size [.int .u64 (s.pn : Int), .int .u64 (s.when_ : Int), .int .i64 (s.size : Int), .bool s.eager] 30) := Lib.hid (by
        rw [hW1]
        exact ((IsBlk.new w [.int .u64 (s.pn : Int), .int .u64 (s.when_ : Int), .int .i64 (s.size : Int), .bool s.eager] 30).touch (ks := []) ((Touch.refl _ _).drewN nq) (by simp)).touch ((Touch.refl [p] _).set (.inl (by simp)) _) (by simp; omega))
      have HB1 : Hid (IsBlk W1 p ((lcells σ mb ao co q).set 3 (.int .i64 (s.pn : Int))) 64) := Lib.hid (by rw [hW1]; exact (H1.out.touch (ks := []) (((Touch.refl _ _).alloc _).drewN nq) (by simp)).set 3 _)
      have HS1 : Hid (IsS W1 q 79 Fq σ.sent 0) := Lib.hid (HQ.out.2.2.1.touch HT1.out (fun g hg hm => HQ.out.2.2.2.1.2.2 (by simp at hm; rw [← hm]; exact hg)))
      have HM1 : Hid (IsM W1 mb m (fnd σ.opens)) := Lib.hid (HQ.out.1.touch HT1.out (by simp; exact fun e => HQ.out.2.2.2.1.1 e.symm))
      have HO1 : Hid (Sl W1 28 1 (.slice ao σ.opens.length co) σ.opens.length (us (pns σ.opens))) := Lib.hid (HQ.out.2.1.touch HT1.out (fun g hg hm => HQ.out.2.2.2.1.2.1 (by simp at hm; rw [← hm]; exact hg)))
      have HSZ : Hid (w.heap.size < W1.heap.size) := Lib.hid HX1.out.lt
      have HAD := Lib.hid (send_add HQ.out.2.2.2.2.2.2.1 HB.out)
      have HXF : Hid (w.heap.size ∉ Fq) := Lib.hid (fun hm => by have := HQ.out.2.2.1.lt _ hm; omega)
      have HLN : Hid (σ.sent.length ≤ 100000 ∧ σ.opens.length ≤ 100000 ∧ m ≤ 100000) := Lib.hid (by
        have h1 := HQ.out.2.2.2.2.2.2.1.nsent
        have h2 := HQ.out.2.2.2.2.2.2.1.nopen
        have h3 := HQ.out.2.2.2.2.2.2.2
        omega)
      have b2 := HB1.out.cell 2
      have bl := HB1.out.lt
      have x0 := HX1.out.cell 0
      have xl := HX1.out.lt
      simp [lcells] at b2 x0
      have hrd := Lib.hid (show Rd ((W1.alloc (.cells #[.int .u64 (s.pn : Int)] 28)).drew) 1 (.slice (some ⟨W1.heap.size, 0, none⟩) 1 1) 1 (us [s.pn]) from ⟨by simp [us], .inr ⟨W1.heap.size, 0, 1, rfl, Nat.le_refl _, fun _ => by simp, fun j hj => by
        have hj0 : j = 0 := by omega
        subst hj0
        exact (IsBlk.new W1 [.int .u64 (s.pn : Int)] 28).cell 0⟩⟩)
      clear hW1 c3 f3 hl
      go_region_held3 (fun w' => w'.cell? ⟨p, 2, none⟩ = some (.pointer (some ⟨q, 0, none⟩)) ∧ w'.cell? ⟨w.heap.size, 0, none⟩ = some (.int .u64 (s.pn : Int))) (go_keep) (first | (go_at_call 22; refine (add_any _ q Fq σ.sent 0 (some ⟨W1.heap.size, 0, none⟩) 1 1 [s.pn] (HS1.out.keep (((Touch.refl [] _).alloc _).drew)) hrd.out rfl (fun g hg hm => by have h1 := HS1.out.lt g hm; have h2 := (mem_own hg).1; simp at h2; omega) (by have := HLN.out.1; omega) (by simp; exact hpn)).mono ?_; rw [HAD.out]; rintro e w2 ⟨rfl, hG⟩; have HT2 : Hid (Touch Fq W1 w2) := Lib.hid ((((Touch.refl Fq W1).alloc _).drew).trans hG.touch (fun g hg => .inl hg)); have HG := Lib.hid hG; have HB2 := Lib.hid (HB1.out.touch HT2.out HQ.out.2.2.2.1.2.2); have HX2 := Lib.hid (HX1.out.touch HT2.out HXF.out); have g2 := HB2.out.cell 2; have y0 := HX2.out.cell 0; simp [lcells] at g2 y0; clear hG))
      clear b2 bl x0 xl
      have hrd0 := hrd
      clear hrd0 hrd HAD
      have HM2 : Hid (IsM w2.drew mb m (fnd σ.opens)) := Lib.hid (HM1.out.touch (HT2.out.drew) HQ.out.2.2.2.2.1.2)
      obtain ⟨w3, hst, hM3, hT3⟩ := HM2.out.store s.pn hpn s (by have := HLN.out.2.2; unfold maxLen; omega)
      have HM3 := Lib.hid hM3
      have HT3 : Hid (Touch [mb] w2 w3) := Lib.hid (((Touch.refl [mb] w2).drew).trans hT3 (fun g hg => .inl hg))
      have HB3 := Lib.hid (HB2.out.touch HT3.out (by simp; exact HQ.out.2.2.2.1.1))
      have HX3 := Lib.hid (HX2.out.touch HT3.out (by simp; intro e; have := HQ.out.1.lt; omega))
      unfold pktV at hst
      clear hM3 hT3 g2 y0
      have a0 := HB2.out.cell 0
      have al := HB2.out.lt
      have y0 := HX2.out.cell 0
      have y1 := HX2.out.cell 1
      have y2 := HX2.out.cell 2
      have y3 := HX2.out.cell 3
      have yl := HX2.out.lt
      have z0 := HX3.out.cell 0
      have z1 := HX3.out.cell 1
      have z2 := HX3.out.cell 2
      have z3 := HX3.out.cell 3
      have zp := HB3.out.cell 0
      simp [lcells] at a0 y0 y1 y2 y3 z0 z1 z2 z3 zp
      go_wp2_with fail
      go_region_held3 (fun w' => w'.cell? ⟨p, 0, none⟩ = some (.map (some mb)) ∧ w'.cell? ⟨w.heap.size, 0, none⟩ = some (.int .u64 (s.pn : Int)) ∧ w'.cell? ⟨w.heap.size, 1, none⟩ = some (.int .u64 (s.when_ : Int)) ∧ w'.cell? ⟨w.heap.size, 2, none⟩ = some (.int .i64 (s.size : Int)) ∧ w'.cell? ⟨w.heap.size, 3, none⟩ = some (.bool s.eager)) (go_keep) (fail)
      clear a0 al y0 y1 y2 y3 yl z0 z1 z2 z3 zp hst
      have HO3 : Hid (Sl w3 28 1 (.slice ao σ.opens.length co) σ.opens.length (us (pns σ.opens))) := Lib.hid ((HO1.out.touch HT2.out (fun g hg => HQ.out.2.2.2.2.2.1 g hg)).touch HT3.out (fun g hg hm => HQ.out.2.2.2.2.1.1 (by simp at hm; rw [← hm]; exact hg)))
      obtain ⟨i0, hi0, hz0, hz1, hz2⟩ := info_parts info28
      have b1 := HB3.out.cell 1
      have f1 := HB3.out.frozen 1
      have bl := HB3.out.lt
      have x0 := HX3.out.cell 0
      have xl := HX3.out.lt
      simp [lcells] at b1 x0
      have hXp : w.heap.size ≠ p := by have := H1.out.lt; omega
      have HRD : Hid (Rd ((w3.alloc (.cells #[.int .u64 (s.pn : Int)] 28)).drew) 1 (.slice (some ⟨w3.heap.size, 0, none⟩) 1 1) 1 (us [s.pn])) := Lib.hid ⟨by simp [us], .inr ⟨w3.heap.size, 0, 1, rfl, Nat.le_refl _, fun _ => by simp, fun j hj => by
        have hj0 : j = 0 := by omega
        subst hj0
        exact (IsBlk.new w3 [.int .u64 (s.pn : Int)] 28).cell 0⟩⟩
      have HEND : Hid (∀ a3 c3 w4, Sl w4 28 1 (.slice a3 (σ.opens.length + 1) c3) (σ.opens.length + 1) (us (pns σ.opens) ++ us [s.pn]) → Touch (own (.slice ao σ.opens.length co)) w3 w4 → (∀ g ∈ own (.slice a3 (σ.opens.length + 1) c3), g ∈ own (.slice ao σ.opens.length co) ∨ ((w3.alloc (.cells #[.int .u64 (s.pn : Int)] 28)).drew).heap.size ≤ g) → StepL w p F (sentS σ s) (w4.setCell ⟨p, 1, none⟩ (.slice a3 (σ.opens.length + 1) c3))) := Lib.hid (fun a3 c3 w4 k1 k2 k3 => by
        obtain ⟨h2, h3, h4, d1, d2, d3, hok, hm⟩ := HQ.out
        obtain ⟨Fq', g1, _, g3⟩ := HG.out
        have s1 := HSZ.out
        have s2 := HT2.out.size
        have s3 := HT3.out.size
        have s4 := k2.size
        have sp := H1.out.lt
        have sm := h2.lt
        have hz3 : ((w3.alloc (.cells #[.int .u64 (s.pn : Int)] 28)).drew).heap.size = w3.heap.size + 1 := by simp [World.drew]
        rw [hz3] at k3
        have hF' : ∀ g ∈ Fq', g ∈ Fq ∨ W1.heap.size ≤ g := fun g hg => (g3 g hg).imp id (fun h => by
          have : ((W1.alloc (.cells #[.int .u64 (s.pn : Int)] 28)).drew).heap.size = W1.heap.size + 1 := by simp [World.drew]
          omega)
        have hpF : p ∉ Fq' := fun hm => (hF' p hm).elim d1.2.2 (fun h => by omega)
        have hmF : mb ∉ Fq' := fun hm => (hF' mb hm).elim d2.2 (fun h => by omega)
        have hoF : ∀ g ∈ own (.slice ao σ.opens.length co), g ∉ Fq' := fun g hg hm => (hF' g hm).elim (d3 g hg) (fun h => by have := h3.lt g hg; omega)
        have hTp : Touch [p] w4 (w4.setCell ⟨p, 1, none⟩ (.slice a3 (σ.opens.length + 1) c3)) := (Touch.refl [p] w4).set (.inl (by simp)) _
        have hno : ∀ g ∈ own (.slice a3 (σ.opens.length + 1) c3), g ≠ p ∧ g ≠ mb ∧ g ∉ Fq' := fun g hg => by
          rcases k3 g hg with h | h
          · exact ⟨fun e => d1.2.1 (by rw [← e]; exact h), fun e => d2.1 (by rw [← e]; exact h), hoF g h⟩
          · exact ⟨by omega, by omega, fun hm => by have := g1.lt g hm; omega⟩
        have el : (σ.opens ++ [s]).length = σ.opens.length + 1 := by simp
        have HB4 := HB3.out.touch k2 d1.2.1
        rw [HF.out]
        refine ⟨p :: mb :: (own (.slice a3 (σ.opens.length + 1) c3) ++ Fq'), ⟨mb, a3, c3, q, Fq', m + 1, ?_, ?_, ?_, ?_, ?_, ⟨d1.1, ?_, hpF⟩, ⟨?_, hmF⟩, ?_, sentS_ok hok HB.out hw1 hw2 ht, by show m + 1 ≤ σ.tot + 1; omega⟩, ?_, ?_⟩
        · show IsBlk _ p [_, .slice a3 (σ.opens ++ [s]).length c3, _, _, _, _, _, _, _, _] 64
          rw [el]
          exact HB4.set 1 _
        · show IsM _ mb (m + 1) (fnd (σ.opens ++ [s]))
          rw [← fnd_snoc hok HB.out]
          exact (HM3.out.touch k2 d2.1).touch hTp (by simp; exact fun e => d1.1 e.symm)
        · show Sl _ 28 1 (.slice a3 (σ.opens ++ [s]).length c3) (σ.opens ++ [s]).length (us (pns (σ.opens ++ [s])))
          rw [el, show us (pns (σ.opens ++ [s])) = us (pns σ.opens) ++ us [s.pn] from by unfold pns; rw [List.map_append, us_app]; rfl]
          exact k1.touch hTp (fun g hg hm => (hno g hg).1 (by simpa using hm))
        · exact ((g1.touch HT3.out (fun g hg hm => by simp at hm; subst hm; exact hmF hg)).touch k2 (fun g hg hm => hoF g hm hg)).touch hTp (fun g hg hm => by simp at hm; subst hm; exact hpF hg)
        · show _ = p :: mb :: (own (.slice a3 (σ.opens ++ [s]).length c3) ++ Fq')
          rw [el]
        · show p ∉ own (.slice a3 (σ.opens ++ [s]).length c3)
          rw [el]
          exact fun hm => (hno p hm).1 rfl
        · show mb ∉ own (.slice a3 (σ.opens ++ [s]).length c3)
          rw [el]
          exact fun hm => (hno mb hm).2.1 rfl
        · show ∀ g ∈ own (.slice a3 (σ.opens ++ [s]).length c3), g ∉ Fq'
          rw [el]
          exact fun g hg => (hno g hg).2.2
        · exact ((((HT1.out.mono (js := p :: mb :: (own (.slice ao σ.opens.length co) ++ Fq)) (fun g hg => .inl (by simp at hg; simp [hg]))).trans HT2.out (fun g hg => .inl (by simp [hg]))).trans HT3.out (fun g hg => .inl (by simp at hg; simp [hg]))).trans k2 (fun g hg => .inl (by simp [hg]))).trans hTp (fun g hg => .inl (by simp at hg; simp [hg]))
        · intro g hg
          simp only [List.mem_cons, List.mem_append] at hg ⊢
          rcases hg with hg | hg | hg | hg
          · exact .inl (.inl hg)
          · exact .inl (.inr (.inl hg))
          · rcases k3 g hg with h | h
            · exact .inl (.inr (.inr (.inl h)))
            · exact .inr (by omega)
          · rcases hF' g hg with h | h
            · exact .inl (.inr (.inr (.inr h)))
            · exact .inr (by omega))
      go_wp2_with fail
      go_region_law (refine step_append_sl _ rfl _ _ 37 rfl 28 i0 _ 1 8 und37 hi0 hz0 hz1 hz2 rfl (by omega) (.slice ao σ.opens.length co) σ.opens.length (us (pns σ.opens)) (by simp [Act.eval]) (HO3.out.touch (ks := []) (by (repeat (first | exact Touch.refl _ _ | refine Touch.drewN ?_ _ | refine Touch.drew ?_ | refine Touch.set ?_ (.inr (by simp)) _ | refine Touch.alloc ?_ _))) (by simp)) (.slice (some ⟨w3.heap.size, 0, none⟩) 1 1) 1 (us [s.pn]) (by simp [Act.eval]) HRD.out (us_one _) (by have := HLN.out.2.1; unfold maxLen; omega) (by have := HLN.out.2.1; omega) fun a3 c3 w4 k1 k2 k3 k4 => ?_; have HT4 : Hid (Touch (own (.slice ao σ.opens.length co)) w3 w4) := Lib.hid ((((Touch.refl (own (.slice ao σ.opens.length co)) w3).alloc _).drew).trans k2 (fun g hg => .inl hg)); have HB4 := Lib.hid (HB3.out.touch HT4.out HQ.out.2.2.2.1.2.1); have e1 := HB4.out.cell 1; have e2 := HB4.out.frozen 1; have e3 := HB4.out.lt; simp [lcells] at e1; have K1 := Lib.hid k1; have K3 := Lib.hid k3; clear k1 k2 k3 k4)
      all_goals go_wp2_with fail
      all_goals go_ret
      all_goals exact ⟨rfl, HEND.out _ _ _ K1.out HT4.out K3.out⟩
end Go.Proofs.Ythnokfchebmjiaa
