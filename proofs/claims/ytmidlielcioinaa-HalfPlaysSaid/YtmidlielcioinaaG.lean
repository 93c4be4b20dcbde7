/- The contracts of Lost and Acked. Conditions: the half is in order. -/
import Derived.Test.YtmidlielcioinaaE
import Derived.BigRegion
namespace Go.Proofs.Ytmidlielcioinaa
open Go.RowKit

/-- Ranges that are put in one by one. -/
def join (A : List Rng) (L : List Rng) : List Rng := L.foldl (fun A x => spOp A 0 x.1 x.2) A
theorem join_take (A L : List Rng) (k : Nat) (x : Rng) (hx : L[k]? = some x) : join A (L.take (k + 1)) = spOp (join A (L.take k)) 0 x.1 x.2 := by
  unfold join
  rw [List.take_add_one, hx, List.foldl_append]
  rfl
theorem spOp_mem {A : List Rng} (hA : V A 0) (f l n : Nat) (hl : l ≤ mx) : inR n (spOp A 0 f l) ↔ inR n A ∨ (f ≤ n ∧ n ≤ l) := by
  unfold spOp
  split
  · next h => rw [sp_mem n A 0 _ _ hA h, show max f 0 = f from by omega, show min l mx = l from by omega]
  · next h =>
    constructor
    · exact .inl
    · rintro (h2 | h2)
      · exact h2
      · omega
theorem spOp_lt {A : List Rng} (hA : V A 0) (f l t : Nat) (hl : l ≤ mx) (ht : ∀ x ∈ A, x.2 < t) (hlt : l < t) : ∀ y ∈ spOp A 0 f l, y.2 < t := by
  intro y hy
  have hy1 := (spOp_V hA f l).2 y hy
  rcases (spOp_mem hA f l y.2 hl).1 ⟨y, hy, hy1.2.1, Nat.le_refl _⟩ with ⟨x, hx, h1, h2⟩ | h
  · have := ht x hx; omega
  · omega
theorem join_ok {t : Nat} : ∀ (L A : List Rng), V A 0 → (∀ x ∈ A, x.2 < t) → V L 0 → (∀ x ∈ L, x.2 < t) → V (join A L) 0 ∧ ∀ x ∈ join A L, x.2 < t
  | [], A, h1, h2, _, _ => ⟨h1, h2⟩
  | x :: L, A, h1, h2, h3, h4 => by
    have hx := h3.2 x (by simp)
    exact join_ok L _ (spOp_V h1 x.1 x.2) (spOp_lt h1 x.1 x.2 t hx.2.2 h2 (h4 x (by simp))) h3.tail (fun y hy => h4 y (by simp [hy]))
theorem join_mem (n : Nat) : ∀ (L A : List Rng), V A 0 → V L 0 → (inR n (join A L) ↔ inR n A ∨ inR n L)
  | [], A, _, _ => by simp [join, inR]
  | x :: L, A, h1, h3 => by
    have hx := h3.2 x (by simp)
    rw [show join A (x :: L) = join (spOp A 0 x.1 x.2) L from rfl, join_mem n L _ (spOp_V h1 x.1 x.2) h3.tail, spOp_mem h1 _ _ _ hx.2.2, inR_cons, or_assoc]
theorem V_short {L : List Rng} {t : Nat} (h : V L 0) (ht : ∀ x ∈ L, x.2 < t) : L.length ≤ t := by
  have := V_len L 0 0 t h (fun x hx => ⟨Nat.zero_le _, ht x hx⟩) (Nat.zero_le _)
  omega
/-- What Lost leaves. -/
def lostL (σ : Snd) (off : Nat) (n : Int) : List Rng := if (spanR σ off n).2.2 then wo (join (spOp [] 0 (spanR σ off n).1 (spanR σ off n).2.1) σ.lost) σ.acked else σ.lost
def lostS (σ : Snd) (off : Nat) (n : Int) (fin : Bool) : Snd := if fin && ((σ.fin : Int) == 1) then { σ with lost := lostL σ off n, fin := 2 } else { σ with lost := lostL σ off n }
theorem spanR_lt (σ : Snd) (off : Nat) (n : Int) (h : (spanR σ off n).2.2 = true) : (spanR σ off n).1 ≤ (spanR σ off n).2.1 ∧ (spanR σ off n).2.1 < σ.top := by
  unfold spanR at *
  split at h
  · cases h
  · next h2 =>
    rw [if_neg h2]
    show off ≤ off + min n.toNat (σ.top - off) - 1 ∧ off + min n.toNat (σ.top - off) - 1 < σ.top
    omega
theorem lostL_ok {σ : Snd} (hok : σ.Ok) (off : Nat) (n : Int) : Snd.Ok { σ with lost := lostL σ off n } := by
  have hmx : mx = 4611686018427387903 := rfl
  have key : V (lostL σ off n) 0 ∧ ∀ x ∈ lostL σ off n, x.2 < σ.top := by
    unfold lostL
    split
    · next h =>
      have h1 := spanR_lt σ off n h
      have h2 := hok.tm
      have h3 := hok.max
      have e1 : V (spOp [] 0 (spanR σ off n).1 (spanR σ off n).2.1) 0 := spOp_V (V.nil 0) _ _
      have e2 : ∀ x ∈ spOp [] 0 (spanR σ off n).1 (spanR σ off n).2.1, x.2 < σ.top := spOp_lt (V.nil 0) _ _ _ (by omega) (by simp) h1.2
      have hj := join_ok σ.lost _ e1 e2 hok.lost hok.lt
      exact ⟨wo_V _ _ 0 0 hj.1 hok.acked, wo_top _ _ 0 0 _ hj.1 hok.acked hj.2⟩
    · exact ⟨hok.lost, hok.lt⟩
  exact ⟨key.1, hok.acked, key.2, hok.at', hok.top, hok.tm, hok.max, hok.len, hok.fin⟩

set_option maxRecDepth 100000 in
set_option maxHeartbeats 8000000 in
theorem lost_any (w : World) (p : Nat) (F : List Nat) (σ : Snd) (off : Nat) (n : Int) (fin : Bool) (h : IsSnd w p F σ) (hn : n ≤ 9223372036854775807) (ho : off < 18446744073709551616) :
    Calls Try.prog 12 #[.pointer (some ⟨p, 0, none⟩), .int .u64 (off : Int), .int .i64 n, .bool fin] w fun e w' => e = .returned (.tuple #[]) ∧ Step w p F (lostS σ off n fin) w' := by
  have HSP := Lib.hid (span_any25 w p F σ off n h hn ho)
  have HH := Lib.hid h
  have hok := h.ok
  obtain ⟨L1, hL1⟩ : ∃ L1, L1 = lostL σ off n := ⟨_, rfl⟩
  have HO1 : Hid (Snd.Ok { σ with lost := L1 }) := Lib.hid (by rw [hL1]; exact lostL_ok hok off n)
  have HTAU : Hid (lostS σ off n fin = if fin && ((σ.fin : Int) == 1) then { σ with lost := L1, fin := 2 } else { σ with lost := L1 }) := Lib.hid (by unfold lostS; rw [← hL1])
  have HSL := Lib.hid (spanR_lt σ off n)
  unfold lostL at hL1
  rw [HTAU.out]
  clear HTAU
  generalize spanR σ off n = R at *
  obtain ⟨sf, sl, so⟩ := R
  have HL1 := Lib.hid hL1
  have hll := V_short hok.lost hok.lt
  have hal := V_short hok.acked hok.at'
  have hto : σ.top ≤ 50000 := Nat.le_trans hok.top hok.len
  have HOK := Lib.hid hok
  clear hL1 h hok
  go_enter Try.func12, Try.ntmps12
  go_wp2_with fail
  refine HSP.out.mono ?_
  rintro e w1 ⟨rfl, k⟩
  have HT1 := Lib.hid k
  clear k
  go_upto_if 21 with (fail)
  obtain ⟨W1, hW1⟩ : ∃ W1, W1 = w1.alloc (.cells #[.int .u64 (sf : Int), .int .u64 (sl : Int)] 56) := ⟨_, rfl⟩
  rw [← hW1]
  have HTW : Hid (Touch [] w W1) := Lib.hid (by rw [hW1]; exact HT1.out.alloc _)
  have HXB : Hid (IsBlk W1 w1.heap.size [.int .u64 (sf : Int), .int .u64 (sl : Int)] 56) := Lib.hid (by rw [hW1]; exact IsBlk.new w1 _ 56)
  clear hW1
  go_cut [] (fun wx => Step w p F { σ with lost := L1 } wx)
  case first =>
    cases so with
    | false =>
      have HLL : Hid (L1 = σ.lost) := Lib.hid (by have := HL1.out; simpa using this)
      go_wp2_with fail
      go_meet
      case rel =>
        rw [HLL.out]
        exact Step.same HH.out HTW.out
    | true =>
      obtain ⟨ab, al, cb, cl, q, Fq, h1, h2, h3, h4, hF, d1, d2, d3, hok⟩ := HH.out
      have HF := Lib.hid hF
      have H1 := Lib.hid h1
      have HQ := Lib.hid (And.intro h2 (And.intro h3 (And.intro h4 (And.intro d1 (And.intro d2 d3)))))
      have H3 := Lib.hid h3
      have H4 := Lib.hid h4
      obtain ⟨A0, hA0⟩ : ∃ A0, A0 = spOp [] 0 sf sl := ⟨_, rfl⟩
      have hsl := HSL.out rfl
      have hsl : sf ≤ sl ∧ sl < σ.top := hsl
      have hmx : mx = 4611686018427387903 := rfl
      have htm := hok.tm
      have hmm := hok.max
      have HA0 := Lib.hid hA0
      have HJ : Hid (V A0 0 ∧ ∀ x ∈ A0, x.2 < σ.top) := Lib.hid (by rw [hA0]; exact ⟨spOp_V (V.nil 0) _ _, spOp_lt (V.nil 0) _ _ _ (by omega) (by simp) hsl.2⟩)
      have HLW : Hid (L1 = wo (join A0 σ.lost) σ.acked) := Lib.hid (by rw [hA0]; have := HL1.out; simpa using this)
      clear h1 h2 h3 h4 hF d1 d2 d3 hok hmx hA0
      have x0 := HXB.out.cell 0
      have x1 := HXB.out.cell 1
      have xl := HXB.out.lt
      simp only [List.getElem?_cons_zero, List.getElem?_cons_succ] at x0 x1
      go_wp2_with fail
      refine (new_any _).mono ?_
      rintro e w2 ⟨rfl, rfl⟩
      obtain ⟨q2, hq2⟩ : ∃ q2, q2 = W1.heap.size := ⟨_, rfl⟩
      obtain ⟨W2, hW2⟩ : ∃ W2, W2 = W1.alloc (.cells #[.slice none 0 0, .int .u64 0] 71) := ⟨_, rfl⟩
      have HN2 : Hid (IsS W2 q2 71 [q2] [] 0) := Lib.hid (by rw [hW2, hq2]; exact IsS.new W1 71)
      have HX2 := Lib.hid (HXB.out.alloc (.cells #[.slice none 0 0, .int .u64 0] 71))
      rw [← hW2] at HX2 ⊢
      rw [← hq2]
      have HT2 : Hid (Touch [] w W2) := Lib.hid (by rw [hW2]; exact HTW.out.alloc _)
      have HQ2 : Hid (w.heap.size ≤ q2) := Lib.hid (by rw [hq2]; exact HTW.out.size)
      clear hW2 hq2 x0 x1 xl
      have x0 := HX2.out.cell 0
      have x1 := HX2.out.cell 1
      have xl := HX2.out.lt
      simp only [List.getElem?_cons_zero, List.getElem?_cons_succ] at x0 x1
      go_wp2_with fail
      refine (span_any W2 q2 [q2] [] 0 sf sl HN2.out (by simp) (by omega) (by omega)).mono ?_
      rw [← HA0.out]
      rintro e w3 ⟨rfl, F3, g1, g2, g3⟩
      have HN3 := Lib.hid g1
      have HT3 : Hid (Touch [] w w3) := Lib.hid (HT2.out.trans g2 (fun g hg => .inr (by simp at hg; have := HQ2.out; omega)))
      have HF3 : Hid (∀ g ∈ F3, w.heap.size ≤ g) := Lib.hid fun g hg => (g3 g hg).elim (fun h => by simp at h; have := HQ2.out; omega) (fun h => Nat.le_trans HT2.out.size h)
      clear g1 g2 g3 x0 x1 xl
      have hb3 := H1.out.touch HT3.out (by simp)
      have b4 := hb3.cell 4
      have bl := hb3.lt
      simp only [cells, List.getElem?_cons_zero, List.getElem?_cons_succ] at b4
      clear hb3
      go_wp2_with fail
      go_loopw [31] (fun i wr => ∃ (k : Nat) (F' : List Nat), k ≤ σ.lost.length ∧ i = .int .i64 (k : Int) ∧ Hid (IsS wr q2 71 F' (join A0 (σ.lost.take k)) 0) ∧ Hid (Touch [] w wr) ∧ Hid (∀ g ∈ F', w.heap.size ≤ g)) (fun i _ => σ.lost.length - (intOf i).toNat)
      case atStart => exact ⟨0, F3, by omega, by simp, Lib.hid (by simpa [join] using HN3.out), HT3, HF3⟩
      case round =>
        obtain ⟨k, F', hk, rfl, HN, HT, HFN⟩ := hrel
        by_cases hlt : k < σ.lost.length
        · have hlt' : (k : Int) < (σ.lost.length : Int) := by omega
          obtain ⟨x, hx⟩ : ∃ x, σ.lost[k]? = some x := ⟨_, List.getElem?_eq_getElem hlt⟩
          obtain ⟨g, o, rfl⟩ := H3.out.rd.some (by omega)
          obtain ⟨e1, e2, hg⟩ := (H3.out.rd.touch HT.out (by simp)).two rfl k x hx
          have hxv := HOK.out.lost.2 x (List.mem_of_getElem? hx)
          have hx2 : x.2 ≤ 4611686018427387903 := hxv.2.2
          have hx12 : x.1 ≤ x.2 := hxv.2.1
          have HJT := Lib.hid (join_take A0 σ.lost k x hx)
          have hjl : (join A0 (σ.lost.take k)).length ≤ 50000 := by
            have hv := HN.out.v.1
            have := join_ok (t := σ.top) (σ.lost.take k) A0 HJ.out.1 HJ.out.2 ⟨HOK.out.lost.1.sublist (List.take_sublist _ _), fun y hy => HOK.out.lost.2 y (List.mem_of_mem_take hy)⟩ (fun y hy => HOK.out.lt y (List.mem_of_mem_take hy))
            have := V_short this.1 this.2
            omega
          obtain ⟨y1, y2⟩ := x
          simp only at e1 e2 hx2 hx12
          clear hx hxv
          go_wp2_with fail
          refine (span_any _ q2 F' (join A0 (σ.lost.take k)) 0 y1 y2 (HN.out.keep ((Touch.refl _ _).alloc _)) (by omega) (by omega) (by omega)).mono ?_
          rintro e w4 ⟨rfl, F4, g1, g2, g3⟩
          have HN4 := Lib.hid g1
          have HT4 : Hid (Touch [] w w4) := Lib.hid ((HT.out.alloc _).trans g2 (fun g hg => .inr (HFN.out g hg)))
          have HF4 : Hid (∀ g ∈ F4, w.heap.size ≤ g) := Lib.hid fun g hg => (g3 g hg).elim (HFN.out g) (fun h => by have := HT.out.size; simp at h; omega)
          clear g1 g2 g3
          go_wp2_with fail
          go_roundw
          case rel => exact ⟨k + 1, F4, by omega, by go_num, Lib.hid (by rw [HJT.out]; exact HN4.out), HT4, HF4⟩
          case measure => simp [intOf]; omega
        · obtain rfl : k = σ.lost.length := by omega
          have hjo := join_ok (t := σ.top) σ.lost A0 HJ.out.1 HJ.out.2 HOK.out.lost HOK.out.lt
          have HJO := Lib.hid hjo
          have hjl := V_short hjo.1 hjo.2
          have HNJ := Lib.hid HN.out
          rw [List.take_length] at HNJ
          generalize join A0 σ.lost = A at *
          have hcl2 := cnt_le A 0 0 hjo.1 (by simp) (by unfold mx; omega)
          have hcg := cnt_ge A
          obtain ⟨u, hu⟩ : ∃ u, u = cnt A := ⟨_, rfl⟩
          have HU := Lib.hid hu
          have hub : u ≤ 4611686018427387904 := by unfold mx at hcl2; omega
          have HTK : Hid (A.reverse.take (u : Int).toNat = A.reverse) := Lib.hid (List.take_of_length_le (by simp; omega))
          have hwu : IntKind.i64.wrap (u : Int) = (u : Int) := IntWalk.i64_in _ (by omega)
          clear hjo hcl2 hcg hu HN
          go_wp2_with fail
          refine (count_any wr q2 F' A 0 HNJ.out).mono ?_
          rw [← HU.out]
          rintro e w4 ⟨rfl, k4⟩
          have HT4 := Lib.hid (HT.out.trans k4 (by simp))
          have HN4 := Lib.hid (HNJ.out.keep k4)
          clear k4
          go_wp2_with fail
          refine (ranges_any w4 q2 F' A 0 (u : Int) HN4.out (by omega)).mono ?_
          rw [HTK.out]
          rintro e w5 ⟨lv, rfl, k1, k2, k3⟩
          have HT5 := Lib.hid (HT4.out.trans k2 (by simp))
          have HV5 := Lib.hid k1
          have HO5 : Hid (∀ g ∈ own lv, w.heap.size ≤ g) := Lib.hid fun g hg => Nat.le_trans HT4.out.size (k3 g hg)
          clear k1 k2 k3
          go_wp2_with fail
          refine (reverse_any w5 lv _ A.reverse HV5.out rfl).mono ?_
          rw [List.reverse_reverse, List.length_reverse]
          rintro e w6 ⟨rfl, k1, k2⟩
          have HT6 := Lib.hid (HT5.out.trans k2 (fun g hg => .inr (HO5.out g hg)))
          have HV6 := Lib.hid k1.rd
          have hb6 := H1.out.touch HT6.out (by simp)
          have b5 := hb6.cell 5
          have bl6 := hb6.lt
          simp only [cells, List.getElem?_cons_zero, List.getElem?_cons_succ] at b5
          clear k1 k2 hb6
          go_wp2_with fail
          refine (without_any w6 lv A σ.acked q Fq HV6.out (H4.out.keep HT6.out) HJO.out.1 (by omega) (by omega)).mono ?_
          rintro e w7 ⟨v7, rfl, k1, k2, k3⟩
          obtain ⟨a7, c7, hv7, _⟩ := k1.form
          subst hv7
          have K1 := Lib.hid k1
          have HT7 := Lib.hid (HT6.out.trans k2 (by simp))
          have HO7 : Hid (∀ g ∈ own (.slice a7 (wo A σ.acked).length c7), w.heap.size ≤ g) := Lib.hid fun g hg => Nat.le_trans HT6.out.size (k3 g hg)
          have hb7 := H1.out.touch HT7.out (by simp)
          have b74 := hb7.cell 4
          have f74 := hb7.frozen 4
          have bl7 := hb7.lt
          simp only [cells, List.getElem?_cons_zero, List.getElem?_cons_succ] at b74
          clear k1 k2 k3 hb7
          go_wp2_with fail
          go_meet
          case rel =>
            obtain ⟨h2, h3, h4, d1, d2, d3⟩ := HQ.out
            have hlw := HLW.out
            rw [HF.out, hlw]
            have := HO1.out
            rw [hlw] at this
            exact IsSnd.lost' (σ := σ) (L := wo A σ.acked) H1.out h2 h4 d1 d2 d3 (HT7.out.mono (by simp)) K1.out (fun g hg => .inr (HO7.out g hg)) this
  case rest =>
    obtain ⟨F6, g1, g2, g3⟩ := hcut
    have G0 := Lib.hid g1
    obtain ⟨ab, al, cb, cl, q, Fq, h1, h2, h3, h4, hF6, d1, d2, d3, hok⟩ := g1
    have HF6 := Lib.hid hF6
    have H1 := Lib.hid h1
    have HQ := Lib.hid (And.intro h2 (And.intro h3 (And.intro h4 (And.intro d1 (And.intro d2 d3)))))
    have G2 := Lib.hid g2
    have G3 := Lib.hid g3
    have c2 := h1.cell 2
    have f2 := h1.frozen 2
    have hpl := h1.lt
    simp only [cells, List.getElem?_cons_zero, List.getElem?_cons_succ] at c2
    have HO2 : Hid (Snd.Ok { σ with lost := L1, fin := 2 }) := Lib.hid ⟨hok.lost, hok.acked, hok.lt, hok.at', hok.top, hok.tm, hok.max, hok.len, by show 2 ≤ 3; omega⟩
    clear g2 g3 h1 h2 h3 h4 hF6 d1 d2 d3 hok
    cases fin with
    | false =>
      go_wp2_with fail
      go_end0
      exact ⟨rfl, _, G0.out, G2.out, G3.out⟩
    | true =>
      cases hf : ((σ.fin : Int) == 1) with
      | false =>
        go_wp2_with fail
        go_end0
        exact ⟨rfl, _, G0.out, G2.out, G3.out⟩
      | true =>
        go_wp2_with fail
        go_end0
        obtain ⟨h2, h3, h4, d1, d2, d3⟩ := HQ.out
        refine ⟨rfl, Step.trans G2.out G3.out ?_⟩
        rw [HF6.out]
        exact IsSnd.head (σ := { σ with lost := L1 }) (τ := { σ with lost := L1, fin := 2 }) h2 h3 h4 d1 d2 d3 (H1.out.set 2 _) ((Touch.refl [p] wc).set (.inl (by simp)) _) rfl rfl rfl HO2.out
end Go.Proofs.Ytmidlielcioinaa
