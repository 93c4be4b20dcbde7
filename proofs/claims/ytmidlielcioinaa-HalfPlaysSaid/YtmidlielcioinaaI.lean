/- The contract of Acked. Conditions: the half is in order. -/
import Derived.Test.YtmidlielcioinaaG
namespace Go.Proofs.Ytmidlielcioinaa
open Go.RowKit

/-- What Acked leaves. -/
def ackA (σ : Snd) (off : Nat) (n : Int) : List Rng := if (spanR σ off n).2.2 then spOp σ.acked 0 (spanR σ off n).1 (spanR σ off n).2.1 else σ.acked
def ackL (σ : Snd) (off : Nat) (n : Int) : List Rng := if (spanR σ off n).2.2 then wo σ.lost (ackA σ off n) else σ.lost
def ackS (σ : Snd) (off : Nat) (n : Int) (fin : Bool) : Snd := if fin && ((σ.fin : Int) != 0) then { σ with lost := ackL σ off n, acked := ackA σ off n, fin := 3 } else { σ with lost := ackL σ off n, acked := ackA σ off n }
theorem ack_ok {σ : Snd} (hok : σ.Ok) (off : Nat) (n : Int) : Snd.Ok { σ with lost := ackL σ off n, acked := ackA σ off n } := by
  have hmx : mx = 4611686018427387903 := rfl
  have hA : V (ackA σ off n) 0 ∧ ∀ x ∈ ackA σ off n, x.2 < σ.top := by
    unfold ackA
    split
    · next h =>
      have h1 := spanR_lt σ off n h
      have h2 := hok.tm
      have h3 := hok.max
      exact ⟨spOp_V hok.acked _ _, spOp_lt hok.acked _ _ _ (by omega) hok.at' h1.2⟩
    · exact ⟨hok.acked, hok.at'⟩
  have hL : V (ackL σ off n) 0 ∧ ∀ x ∈ ackL σ off n, x.2 < σ.top := by
    unfold ackL
    split
    · exact ⟨wo_V _ _ 0 0 hok.lost hA.1, wo_top _ _ 0 0 _ hok.lost hA.1 hok.lt⟩
    · exact ⟨hok.lost, hok.lt⟩
  exact ⟨hL.1, hA.1, hL.2, hA.2, hok.top, hok.tm, hok.max, hok.len, hok.fin⟩
theorem IsSnd.both {w w' : World} {p : Nat} {σ : Snd} {ab al al' : Option Addr} {cb cl cl' q : Nat} {Fq F3 : List Nat} {L A : List Rng} (h1 : IsBlk w p (cells σ ab al cb cl q) 54) (h2 : Sl w 5 1 (.slice ab σ.b.length cb) σ.b.length (bs σ.b)) (_ : Sl w 56 2 (.slice al σ.lost.length cl) σ.lost.length (cr σ.lost))
    (d1 : p ∉ own (.slice ab σ.b.length cb) ∧ p ∉ own (.slice al σ.lost.length cl) ∧ p ∉ Fq) (d2 : ∀ g ∈ own (.slice ab σ.b.length cb), g ∉ own (.slice al σ.lost.length cl) ∧ g ∉ Fq)
    (hT : Touch Fq w w') (hL : Sl w' 56 2 (.slice al' L.length cl') L.length (cr L)) (hA : IsS w' q 71 F3 A 0) (ho : ∀ g ∈ own (.slice al' L.length cl'), w.heap.size ≤ g ∧ g ∉ F3) (h3' : ∀ g ∈ F3, g ∈ Fq ∨ w.heap.size ≤ g) (hok : Snd.Ok { σ with lost := L, acked := A }) :
    Step w p (p :: (own (.slice ab σ.b.length cb) ++ own (.slice al σ.lost.length cl) ++ Fq)) { σ with lost := L, acked := A } (w'.setCell ⟨p, 4, none⟩ (.slice al' L.length cl')) := by
  have hTp : Touch [p] w' (w'.setCell ⟨p, 4, none⟩ (.slice al' L.length cl')) := (Touch.refl [p] w').set (.inl (by simp)) _
  have hpl := h1.lt
  have hp3 : p ∉ F3 := fun hm => (h3' p hm).elim d1.2.2 (fun h => by omega)
  refine ⟨p :: (own (.slice ab σ.b.length cb) ++ own (.slice al' L.length cl') ++ F3), ⟨ab, al', cb, cl', q, F3, ?_, ?_, ?_, ?_, rfl, ?_, ?_, ?_, hok⟩, ?_, ?_⟩
  · exact (h1.touch hT d1.2.2).set 4 _
  · exact (h2.touch hT (fun g hg hm => (d2 g hg).2 hm)).touch hTp (fun g hg hm => d1.1 (by simp at hm; rw [← hm]; exact hg))
  · exact hL.touch hTp (fun g hg hm => by simp at hm; have := (ho g hg).1; omega)
  · exact hA.touch hTp (fun g hg hm => hp3 (by simp at hm; rw [← hm]; exact hg))
  · exact ⟨d1.1, fun hm => by have := (ho p hm).1; omega, hp3⟩
  · exact fun g hg => ⟨fun hm => by have := (ho g hm).1; have := h2.lt g hg; omega, fun hm => (h3' g hm).elim (d2 g hg).2 (fun h => by have := h2.lt g hg; omega)⟩
  · exact fun g hg => (ho g hg).2
  · exact (hT.mono (fun g hg => .inl (by simp [hg]))).trans hTp (fun g hg => .inl (by simp at hg; simp [hg]))
  · intro g hg
    simp only [List.mem_cons, List.mem_append] at hg ⊢
    rcases hg with hg | (hg | hg) | hg
    · exact .inl (.inl hg)
    · exact .inl (.inr (.inl (.inl hg)))
    · exact .inr (ho g hg).1
    · exact (h3' g hg).elim (fun h => .inl (.inr (.inr h))) .inr

set_option maxRecDepth 100000 in
set_option maxHeartbeats 8000000 in
theorem acked_any (w : World) (p : Nat) (F : List Nat) (σ : Snd) (off : Nat) (n : Int) (fin : Bool) (h : IsSnd w p F σ) (hn : n ≤ 9223372036854775807) (ho : off < 18446744073709551616) :
    Calls Try.prog 13 #[.pointer (some ⟨p, 0, none⟩), .int .u64 (off : Int), .int .i64 n, .bool fin] w fun e w' => e = .returned (.tuple #[]) ∧ Step w p F (ackS σ off n fin) w' := by
  have HSP := Lib.hid (span_any25 w p F σ off n h hn ho)
  have HH := Lib.hid h
  have hok := h.ok
  obtain ⟨L1, hL1⟩ : ∃ L1, L1 = ackL σ off n := ⟨_, rfl⟩
  obtain ⟨A1, hA1⟩ : ∃ A1, A1 = ackA σ off n := ⟨_, rfl⟩
  have hok1 : Snd.Ok { σ with lost := L1, acked := A1 } := by rw [hL1, hA1]; exact ack_ok hok off n
  have HO1 := Lib.hid hok1
  have HTAU : Hid (ackS σ off n fin = if fin && ((σ.fin : Int) != 0) then { σ with lost := L1, acked := A1, fin := 3 } else { σ with lost := L1, acked := A1 }) := Lib.hid (by unfold ackS; rw [← hL1, ← hA1])
  have HSL := Lib.hid (spanR_lt σ off n)
  unfold ackL at hL1
  rw [← hA1] at hL1
  unfold ackA at hA1
  rw [HTAU.out]
  clear HTAU
  generalize spanR σ off n = R at *
  obtain ⟨sf, sl, so⟩ := R
  have HL1 := Lib.hid hL1
  have HA1 := Lib.hid hA1
  have hll := V_short hok.lost hok.lt
  have hal := V_short hok.acked hok.at'
  have hal1 : A1.length ≤ σ.top := V_short hok1.acked hok1.at'
  have hto : σ.top ≤ 50000 := Nat.le_trans hok.top hok.len
  have HOK := Lib.hid hok
  clear hL1 hA1 h hok hok1
  go_enter Try.func13, Try.ntmps13
  go_wp2_with fail
  refine HSP.out.mono ?_
  rintro e w1 ⟨rfl, k⟩
  have HT1 := Lib.hid k
  clear k
  go_upto_if 17 with (fail)
  obtain ⟨W1, hW1⟩ : ∃ W1, W1 = w1.alloc (.cells #[.int .u64 (sf : Int), .int .u64 (sl : Int)] 56) := ⟨_, rfl⟩
  rw [← hW1]
  have HTW : Hid (Touch [] w W1) := Lib.hid (by rw [hW1]; exact HT1.out.alloc _)
  have HXB : Hid (IsBlk W1 w1.heap.size [.int .u64 (sf : Int), .int .u64 (sl : Int)] 56) := Lib.hid (by rw [hW1]; exact IsBlk.new w1 _ 56)
  clear hW1
  go_cut [] (fun wx => Step w p F { σ with lost := L1, acked := A1 } wx)
  case first =>
    cases so with
    | false =>
      have HLL : Hid (L1 = σ.lost ∧ A1 = σ.acked) := Lib.hid ⟨by have := HL1.out; simpa using this, by have := HA1.out; simpa using this⟩
      go_wp2_with fail
      go_meet
      case rel =>
        rw [HLL.out.1, HLL.out.2]
        exact Step.same HH.out HTW.out
    | true =>
      obtain ⟨ab, al, cb, cl, q, Fq, h1, h2, h3, h4, hF, d1, d2, d3, hok⟩ := HH.out
      have HF := Lib.hid hF
      have hsl : sf ≤ sl ∧ sl < σ.top := HSL.out rfl
      have HLW : Hid (L1 = wo σ.lost A1) := Lib.hid (by have := HL1.out; simpa using this)
      have HAW : Hid (A1 = spOp σ.acked 0 sf sl) := Lib.hid (by have := HA1.out; simpa using this)
      have H1 := Lib.hid (h1.touch HTW.out (by simp))
      have H2 := Lib.hid (h2.touch HTW.out (by simp))
      have H3 := Lib.hid (h3.touch HTW.out (by simp))
      have H4 := Lib.hid (h4.keep HTW.out)
      have HD := Lib.hid (And.intro d1 (And.intro d2 d3))
      have HXF : Hid (w1.heap.size ∉ Fq) := Lib.hid fun hm => by have := h4.lt _ hm; have := HT1.out.size; omega
      have x0 := HXB.out.cell 0
      have x1 := HXB.out.cell 1
      have xl := HXB.out.lt
      have b4 := H1.out.cell 4
      have b5 := H1.out.cell 5
      have bl := H1.out.lt
      simp only [cells, List.getElem?_cons_zero, List.getElem?_cons_succ] at x0 x1 b4 b5
      clear h1 h2 h3 h4 hF d1 d2 d3 hok
      go_wp2_with fail
      go_region_held3 (fun w' => w'.cell? ⟨p, 5, none⟩ = some (.pointer (some ⟨q, 0, none⟩)) ∧ w'.cell? ⟨w1.heap.size, 0, none⟩ = some (.int .u64 (sf : Int)) ∧ w'.cell? ⟨w1.heap.size, 1, none⟩ = some (.int .u64 (sl : Int))) (go_keep) (first | (go_at_call 32; refine (span_any _ q Fq σ.acked 0 sf sl (H4.out.keep (w' := W1.drew) ((Touch.refl _ _).drew)) (by omega) (by omega) (by omega)).mono ?_; rw [← HAW.out]; rintro e w3 ⟨rfl, F3, g1, g2, g3⟩; have HN3 := Lib.hid g1; have HT3 : Hid (Touch Fq W1 w3) := Lib.hid (((Touch.refl [] W1).drew.mono (by simp)).trans g2 (fun g hg => .inl hg)); have HF3 : Hid (∀ g ∈ F3, g ∈ Fq ∨ W1.heap.size ≤ g) := Lib.hid g3; have HB3 := Lib.hid (H1.out.touch HT3.out HD.out.1.2.2); have HX3 := Lib.hid (HXB.out.touch HT3.out HXF.out); have b34 := HB3.out.cell 4; have b35 := HB3.out.cell 5; have bl3 := HB3.out.lt; have y0 := HX3.out.cell 0; have y1 := HX3.out.cell 1; simp only [cells, List.getElem?_cons_zero, List.getElem?_cons_succ] at b34 b35 y0 y1; clear g1 g2 g3))
      have HL3 := Lib.hid (H3.out.rd.touch HT3.out HD.out.2.2)
      have hb34 : w3.cell? ⟨p, 4, none⟩ = some (.slice al σ.lost.length cl) := b34
      have hb35 : w3.cell? ⟨p, 5, none⟩ = some (.pointer (some ⟨q, 0, none⟩)) := b35
      go_wp2_with fail
      refine wp_region_hold (fun w' => w'.cell? ⟨p, 5, none⟩ = some (.pointer (some ⟨q, 0, none⟩))) (fun w' => w'.cell? ⟨p, 4, none⟩ = some (.slice al σ.lost.length cl)) [12] [false, false, false, false, false, false, false, false, false, false, false, false, false] (by kernel_rfl) (by kernel_rfl) (by exact hb35) (by exact hb34) (fun hS => ?_)
      refine takeG (i := 0) (v := ?_) rfl (by kernel_rfl) (by kernel_rfl) (by kernel_rfl) (by kernel_rfl) (fun _ _ _ h => h) (Or.inl ⟨by rfl, ?_⟩) hS (fun hT => ?_)
      rotate_left
      · intro w hC; (try dsimp only at hC); go_simp; try with_reducible rfl
      clear hS
      have hS := hT
      clear hT
      simp only [Act.put, List.setIfInBounds_toArray, List.set_cons_zero] at hS ⊢
      refine takeG (i := 1) (v := ?_) rfl (by kernel_rfl) (by kernel_rfl) (by kernel_rfl) (by kernel_rfl) (fun _ _ _ h => h) (Or.inl ⟨by rfl, ?_⟩) hS (fun hT => ?_)
      rotate_left
      · intro w hC; (try dsimp only at hC); go_simp; try with_reducible rfl
      clear hS
      have hS := hT
      clear hT
      simp only [Act.put, List.setIfInBounds_toArray, List.set_cons_zero, List.set_cons_succ] at hS ⊢
      refine takeG (i := 2) (v := ?_) rfl (by kernel_rfl) (by kernel_rfl) (by kernel_rfl) (by kernel_rfl) (fun _ _ _ h => h) (Or.inl ⟨by rfl, ?_⟩) hS (fun hT => ?_)
      rotate_left
      · intro w hC; (try dsimp only at hC); go_simp; try with_reducible rfl
      clear hS
      have hS := hT
      clear hT
      simp only [Act.put, List.setIfInBounds_toArray, List.set_cons_zero, List.set_cons_succ] at hS ⊢
      refine takeG (i := 3) (v := ?_) rfl (by kernel_rfl) (by kernel_rfl) (by kernel_rfl) (by kernel_rfl) (fun _ _ _ h => h) (Or.inl ⟨by rfl, ?_⟩) hS (fun hT => ?_)
      rotate_left
      · intro w hC; (try dsimp only at hC); go_simp; try with_reducible rfl
      clear hS
      have hS := hT
      clear hT
      simp only [Act.put, List.setIfInBounds_toArray, List.set_cons_zero, List.set_cons_succ] at hS ⊢
      refine takeG1 (i := 4) (v := ?_) rfl (by kernel_rfl) (by kernel_rfl) (by kernel_rfl) (by kernel_rfl) (by kernel_rfl) (by kernel_rfl) (fun _ _ _ h => h) (Or.inl ⟨by rfl, ?_⟩) hS (fun hT => ?_)
      rotate_left
      · intro w hC; (try dsimp only at hC); go_simp; try with_reducible rfl
      clear hS
      have hS := hT
      clear hT
      simp only [Act.put, List.setIfInBounds_toArray, List.set_cons_zero, List.set_cons_succ] at hS ⊢
      refine takeG (i := 5) (v := ?_) rfl (by kernel_rfl) (by kernel_rfl) (by kernel_rfl) (by kernel_rfl) (fun _ _ _ h => h) (Or.inl ⟨by rfl, ?_⟩) hS (fun hT => ?_)
      rotate_left
      · intro w hC; (try dsimp only at hC); go_simp; try with_reducible rfl
      clear hS
      have hS := hT
      clear hT
      simp only [Act.put, List.setIfInBounds_toArray, List.set_cons_zero, List.set_cons_succ] at hS ⊢
      refine takeG (i := 6) (v := ?_) rfl (by kernel_rfl) (by kernel_rfl) (by kernel_rfl) (by kernel_rfl) (fun _ _ _ h => h) (Or.inl ⟨by rfl, ?_⟩) hS (fun hT => ?_)
      rotate_left
      · intro w hC; (try dsimp only at hC); go_simp; try with_reducible rfl
      clear hS
      have hS := hT
      clear hT
      simp only [Act.put, List.setIfInBounds_toArray, List.set_cons_zero, List.set_cons_succ] at hS ⊢
      refine takeG (i := 7) (v := ?_) rfl (by kernel_rfl) (by kernel_rfl) (by kernel_rfl) (by kernel_rfl) (fun _ _ _ h => h) (Or.inl ⟨by rfl, ?_⟩) hS (fun hT => ?_)
      rotate_left
      · intro w hC; (try dsimp only at hC); go_simp; try with_reducible rfl
      clear hS
      have hS := hT
      clear hT
      simp only [Act.put, List.setIfInBounds_toArray, List.set_cons_zero, List.set_cons_succ] at hS ⊢
      refine takeG (i := 8) (v := ?_) rfl (by kernel_rfl) (by kernel_rfl) (by kernel_rfl) (by kernel_rfl) (fun _ _ _ h => h) (Or.inl ⟨by rfl, ?_⟩) hS (fun hT => ?_)
      rotate_left
      · intro w hC; (try dsimp only at hC); go_simp; try with_reducible rfl
      clear hS
      have hS := hT
      clear hT
      simp only [Act.put, List.setIfInBounds_toArray, List.set_cons_zero, List.set_cons_succ] at hS ⊢
      refine oneG (i := 9) (by kernel_rfl) rfl (fun K hK => ?_)
      (go_simp; go_at_call 36; refine (without_any _ (.slice al σ.lost.length cl) σ.lost A1 q F3 (HL3.out.touch (ks := []) ((Touch.refl _ _).drew) (by simp)) (HN3.out.keep ((Touch.refl _ _).drew)) HOK.out.lost (by omega) (by omega)).mono ?_; rintro e w7 ⟨v7, rfl, k1, k2, k3⟩; obtain ⟨a7, c7, hv7, _⟩ := k1.form; subst hv7; have K1 := Lib.hid k1; have HT7 : Hid (Touch [] w3 w7) := Lib.hid ((Touch.refl [] w3).drew.trans k2 (by simp)); have HO7 : Hid (∀ g ∈ own (.slice a7 (wo σ.lost A1).length c7), w3.heap.size ≤ g) := Lib.hid k3; have hb7 := HB3.out.touch HT7.out (by simp); have HB7 := Lib.hid hb7; have b74 := hb7.cell 4; have b75 := hb7.cell 5; have f74 := hb7.frozen 4; have bl7 := hb7.lt; simp only [cells, List.getElem?_cons_zero, List.getElem?_cons_succ] at b74 b75; clear k1 k2 k3 hb7; go_wp2_with fail)
      refine hK.out _ _ ⟨?_, fun hu => ?_⟩ (fun hT => ?_)
      · exact b75
      · exact b74
      clear hS
      have hS := hT
      clear hT
      simp only [List.setIfInBounds_toArray, List.set_cons_zero, List.set_cons_succ] at hS ⊢
      clear hK K
      refine takeG (i := 10) (v := ?_) rfl (by kernel_rfl) (by kernel_rfl) (by kernel_rfl) (by kernel_rfl) (fun _ _ _ h => h) (Or.inl ⟨by rfl, ?_⟩) hS (fun hT => ?_)
      rotate_left
      · intro w hC; (try dsimp only at hC); go_simp; try with_reducible rfl
      clear hS
      have hS := hT
      clear hT
      simp only [Act.put, List.setIfInBounds_toArray, List.set_cons_zero, List.set_cons_succ] at hS ⊢
      refine takeG (i := 11) (v := ?_) rfl (by kernel_rfl) (by kernel_rfl) (by kernel_rfl) (by kernel_rfl) (fun _ _ _ h => h) (Or.inl ⟨by rfl, ?_⟩) hS (fun hT => ?_)
      rotate_left
      · intro w hC; (try dsimp only at hC); go_simp; try with_reducible rfl
      clear hS
      have hS := hT
      clear hT
      simp only [Act.put, List.setIfInBounds_toArray, List.set_cons_zero, List.set_cons_succ] at hS ⊢
      refine oneG (i := 12) (by kernel_rfl) rfl (fun K hK => ?_)
      go_simp
      refine hK.out _ _ ⟨?_, fun hu => ?_⟩ (fun hT => ?_)
      · (have h5 := (HB7.out.set 4 (.slice a7 (wo σ.lost A1).length c7)).cell 5; simpa [cells] using h5)
      · exact absurd hu (by decide)
      clear hS
      have hS := hT
      clear hT
      simp only [List.setIfInBounds_toArray, List.set_cons_zero, List.set_cons_succ] at hS ⊢
      clear hK K
      refine wpAnyG_done (by kernel_rfl) ?_ _
      clear hS
      go_wp2_with fail
      go_meet
      case rel =>
        have hlw := HLW.out
        have := HO1.out
        rw [hlw] at this ⊢
        rw [HF.out]
        refine Step.trans (HTW.out.mono (by simp)) (fun g hg => .inl hg) (IsSnd.both (σ := σ) (L := wo σ.lost A1) (A := A1) H1.out H2.out H3.out HD.out.1 HD.out.2.1 (HT3.out.trans HT7.out (by simp)) K1.out (HN3.out.keep HT7.out) (fun g hg => ⟨Nat.le_trans HT3.out.size (HO7.out g hg), fun hm => by have := HN3.out.lt g hm; have := HO7.out g hg; omega⟩) HF3.out this)
  case rest =>
    obtain ⟨F6, g1, g2, g3⟩ := hcut
    have G0 := Lib.hid g1
    obtain ⟨ab, al, cb, cl, q, Fq, h1, h2, h3, h4, hF6, d1, d2, d3, hok⟩ := g1
    have HF6 := Lib.hid hF6
    have H1 := Lib.hid h1
    have HQ := Lib.hid (And.intro h2 (And.intro h3 (And.intro h4 (And.intro d1 (And.intro d2 d3)))))
    have G2 := Lib.hid g2
    have G3 := Lib.hid g3
    have c2 := h1.cell 2
    have f2 := h1.frozen 2
    have hpl := h1.lt
    simp only [cells, List.getElem?_cons_zero, List.getElem?_cons_succ] at c2
    have HO2 : Hid (Snd.Ok { σ with lost := L1, acked := A1, fin := 3 }) := Lib.hid ⟨hok.lost, hok.acked, hok.lt, hok.at', hok.top, hok.tm, hok.max, hok.len, by show 3 ≤ 3; omega⟩
    clear g2 g3 h1 h2 h3 h4 hF6 d1 d2 d3 hok
    cases fin with
    | false =>
      go_wp2_with fail
      go_end0
      exact ⟨rfl, _, G0.out, G2.out, G3.out⟩
    | true =>
      cases hf : ((σ.fin : Int) != 0) with
      | false =>
        go_wp2_with fail
        go_end0
        exact ⟨rfl, _, G0.out, G2.out, G3.out⟩
      | true =>
        go_wp2_with fail
        go_end0
        obtain ⟨h2, h3, h4, d1, d2, d3⟩ := HQ.out
        refine ⟨rfl, Step.trans G2.out G3.out ?_⟩
        rw [HF6.out]
        exact IsSnd.head (σ := { σ with lost := L1, acked := A1 }) (τ := { σ with lost := L1, acked := A1, fin := 3 }) h2 h3 h4 d1 d2 d3 (H1.out.set 2 _) ((Touch.refl [p] wc).set (.inl (by simp)) _) rfl rfl rfl HO2.out
end Go.Proofs.Ytmidlielcioinaa
