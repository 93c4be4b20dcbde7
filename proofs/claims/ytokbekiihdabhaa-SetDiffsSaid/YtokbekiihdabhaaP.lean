/- The walk of the statement on differences. Conditions: the numbers fit their kinds. -/
import Derived.Test.YtokbekiihdabhaaH
import Derived.Deep.CutBlock
import Derived.Deep.DeepCutAuto
import Derived.Outline
import Derived.Test.YtokbekiihdabhaaO
namespace Go.Proofs.Ytokbekiihdabhaa
open Go.RowKit

def Two (w : World) (n : Nat) (a b : S6) : Prop := IsBlk w n a.cells 24 ∧ IsBlk w (n + 1) b.cells 24
section
variable {w w' : World} {n : Nat} {a b : S6}
theorem Two.alloc (h : Two w n a b) (o : Obj) : Two (w.alloc o) n a b := ⟨h.1.alloc o, h.2.alloc o⟩
theorem Two.drew (h : Two w n a b) : Two w.drew n a b := h
theorem Two.below (h : Two w n a b) (hb : Below w.heap.size w w') : Two w' n a b := ⟨h.1.below hb h.1.lt, h.2.below hb h.2.lt⟩
theorem Two.set {p j : Nat} {s : Option Nat} {v : Value} (hp : n + 1 < p) (h : Two w n a b) : Two (w.setCell ⟨p, j, s⟩ v) n a b := ⟨h.1.set_other (by omega) v, h.2.set_other (by omega) v⟩
theorem Two.load (h : Two w n a b) : w.cell? ⟨n, 0, none⟩ = some (.int .u64 a.t) ∧ w.cell? ⟨n, 1, none⟩ = some (.int .u64 a.p) ∧ w.cell? ⟨n, 2, none⟩ = some (.int .u64 a.s) ∧ w.cell? ⟨n, 3, none⟩ = some (.int .u64 a.w) ∧ w.cell? ⟨n, 4, none⟩ = some (.int .u64 a.f) ∧ w.cell? ⟨n, 5, none⟩ = some (.int .u64 a.l) ∧
    w.cell? ⟨n + 1, 0, none⟩ = some (.int .u64 b.t) ∧ w.cell? ⟨n + 1, 1, none⟩ = some (.int .u64 b.p) ∧ w.cell? ⟨n + 1, 2, none⟩ = some (.int .u64 b.s) ∧ w.cell? ⟨n + 1, 3, none⟩ = some (.int .u64 b.w) ∧ w.cell? ⟨n + 1, 4, none⟩ = some (.int .u64 b.f) ∧ w.cell? ⟨n + 1, 5, none⟩ = some (.int .u64 b.l) :=
  ⟨h.1.cell 0, h.1.cell 1, h.1.cell 2, h.1.cell 3, h.1.cell 4, h.1.cell 5, h.2.cell 0, h.2.cell 1, h.2.cell 2, h.2.cell 3, h.2.cell 4, h.2.cell 5⟩
end

theorem owns_drewN {w : World} {B e s : Nat} {v : Value} {n : Nat} {xs : List Value} (h : w.ownsRow B e s v n xs) (k : Nat) : (w.drewN k).ownsRow B e s v n xs := h

def Reg (a b : S6) (W : World) (A0 : Act) (l : Array Bool) (act : Act) (w' : World) : Prop :=
  ∃ (l0 l1 l2 l3 l4 l5 l6 l7 : Bool) (u6 u7 u19 u20 u21 u22 : Value), l = #[l0, l1, l2, l3, l4, l5, l6, l7] ∧
    act = (((((A0.put (some 6) u6).put (some 7) u7).put (some 19) u19).put (some 20) u20).put (some 21) u21).put (some 22) u22 ∧
    (l0 = true → u19 = .agg #[.int .u64 a.t, .int .u64 a.p, .int .u64 a.s, .int .u64 a.w, .int .u64 a.f, .int .u64 a.l]) ∧ (l1 = true → u20 = .agg #[.int .u64 0, .int .u64 a.t, .int .u64 a.p, .int .u64 a.s, .int .u64 a.w, .int .u64 a.f, .int .u64 a.l]) ∧ (l2 = true → u21 = .agg #[.int .u64 b.t, .int .u64 b.p, .int .u64 b.s, .int .u64 b.w, .int .u64 b.f, .int .u64 b.l]) ∧ (l3 = true → u22 = .agg #[.int .u64 0, .int .u64 b.t, .int .u64 b.p, .int .u64 b.s, .int .u64 b.w, .int .u64 b.f, .int .u64 b.l]) ∧
    (l4 = true → ∃ p, u6 = .pointer (some ⟨p, 0, none⟩) ∧ W.heap.size ≤ p ∧ IsBlk w' p (if l6 then a.cells7 else S6.zero.cells7) 29) ∧
    (l5 = true → ∃ q, u7 = .pointer (some ⟨q, 0, none⟩) ∧ W.heap.size ≤ q ∧ IsBlk w' q (if l7 then b.cells7 else S6.zero.cells7) 29) ∧
    (l4 = true → l5 = true → u6 ≠ u7) ∧ (l6 = true → l4 = true) ∧ (l7 = true → l5 = true) ∧ Below W.heap.size W w'

/-- Zeros laid into a new block. -/
theorem zer (w : World) : IsBlk (w.alloc (.cells #[.int .u64 0, .int .u64 0, .int .u64 0, .int .u64 0, .int .u64 0, .int .u64 0, .int .u64 0] 29)) w.heap.size S6.zero.cells7 29 := IsBlk.new w S6.zero.cells7 29

set_option maxHeartbeats 1000000 in
theorem diffs_walk (a b : S6) (w : World) :
    Calls Try.prog 3 #[.agg #[.int .u64 a.t, .int .u64 a.p, .int .u64 a.s, .int .u64 a.w, .int .u64 a.f, .int .u64 a.l], .agg #[.int .u64 b.t, .int .u64 b.p, .int .u64 b.s, .int .u64 b.w, .int .u64 b.f, .int .u64 b.l]] w
      fun e w' => e = .returned (.bool true) ∧ Below w.heap.size w w' := by
  go_enter Try.func3, Try.ntmps3
  go_wp2_with fail
  generalize hW : (w.alloc (.cells #[.int .u64 a.t, .int .u64 a.p, .int .u64 a.s, .int .u64 a.w, .int .u64 a.f, .int .u64 a.l] 24)).alloc (.cells #[.int .u64 b.t, .int .u64 b.p, .int .u64 b.s, .int .u64 b.w, .int .u64 b.f, .int .u64 b.l] 24) = W
  have hA : IsBlk W w.heap.size a.cells 24 := by rw [← hW]; exact (IsBlk.new w a.cells 24).alloc _
  have hB : IsBlk W (w.heap.size + 1) b.cells 24 := by
    rw [← hW]
    have := IsBlk.new (w.alloc (.cells #[.int .u64 a.t, .int .u64 a.p, .int .u64 a.s, .int .u64 a.w, .int .u64 a.f, .int .u64 a.l] 24)) b.cells 24
    rw [World.size_alloc] at this
    exact this
  have hbW : Below w.heap.size w W := by rw [← hW]; exact ((Below.refl _ _).alloc (Nat.le_refl _) _).alloc (by simp) _
  have HA := Lib.hid hA
  have HB := Lib.hid hB
  have HBW := Lib.hid hbW
  clear hW hA hB hbW
  refine (known_any _).mono ?_
  rintro e w1 ⟨rfl, hb⟩
  have HA1 := Lib.hid (HA.out.below hb HA.out.lt)
  have HB1 := Lib.hid (HB.out.below hb HB.out.lt)
  have HBW1 := Lib.hid (HBW.out.trans (hb.mono HBW.out.size))
  clear hb
  obtain ⟨x0, x1, x2, x3, x4, x5⟩ := six HA1.out
  obtain ⟨y0, y1, y2, y3, y4, y5⟩ := six HB1.out
  go_wp2_with fail
  refine (diff_any a b _).mono ?_
  rintro e w2 ⟨d1, c1, rfl, hs, hb⟩
  have HA2 := Lib.hid (HA1.out.below hb HA1.out.lt)
  have HB2 := Lib.hid (HB1.out.below hb HB1.out.lt)
  have HBW2 := Lib.hid (HBW1.out.trans (hb.mono HBW1.out.size))
  have HD := Lib.hid hs
  clear hb hs x0 x1 x2 x3 x4 x5 y0 y1 y2 y3 y4 y5
  obtain ⟨x0, x1, x2, x3, x4, x5⟩ := six HA2.out
  obtain ⟨y0, y1, y2, y3, y4, y5⟩ := six HB2.out
  go_upto_region 4 with fail
  have hlt1 := HA2.out.lt
  have hlt2 := HB2.out.lt
  go_cut [6, 7] (fun s6 s7 wx => ∃ p q, s6 = .pointer (some ⟨p, 0, none⟩) ∧ s7 = .pointer (some ⟨q, 0, none⟩) ∧ Is7 wx p a ∧ Is7 wx q b ∧ Below w2.heap.size w2 wx)
  case first =>
    have hT : Two w2 w.heap.size a b := ⟨HA2.out, HB2.out⟩
    clear x0 x1 x2 x3 x4 x5 y0 y1 y2 y3 y4 y5
    refine wp_region_inv (Reg a b w2) (by kernel_rfl) ?_ ?_ ?_
    · exact ⟨false, false, false, false, false, false, false, false, _, _, _, _, _, _, rfl, rfl, by simp, by simp, by simp, by simp, by simp, by simp, by simp, by simp, by simp, (Below.refl _ _).drew⟩
    · rintro l act w' i ⟨l0, l1, l2, l3, l4, l5, l6, l7, u6, u7, u19, u20, u21, u22, rfl, rfl, F0, F1, F2, F3, F4, F5, F6, D6, D7, hbel⟩ hi
      obtain ⟨hl, o, ho, hall⟩ := mem_ready.1 hi
      clear hi
      have hT' : Two w' w.heap.size a b := ⟨hT.1.below hbel hT.1.lt, hT.2.below hbel hT.2.lt⟩
      have hi8 : i < 8 := (Array.getElem?_eq_some_iff.1 ho).1
      rcases (show i = 0 ∨ i = 1 ∨ i = 2 ∨ i = 3 ∨ i = 4 ∨ i = 5 ∨ i = 6 ∨ i = 7 from by omega) with rfl | rfl | rfl | rfl | rfl | rfl | rfl | rfl
      · clear hi8
        obtain rfl := Option.some.inj ho
        simp [Region.binds] at hl hall
        subst hl
        clear ho
        have G0 := Lib.hid F0
        have G1 := Lib.hid F1
        have G2 := Lib.hid F2
        have G3 := Lib.hid F3
        have G4 := Lib.hid F4
        have G5 := Lib.hid F5
        have G6 := Lib.hid F6
        have E6 := Lib.hid D6
        have E7 := Lib.hid D7
        have HB := Lib.hid hbel
        clear F0 F1 F2 F3 F4 F5 F6 D6 D7 hbel
        refine wpOp_step rfl (fun K hK => ?_)
        have HK := Lib.hid hK
        clear hK
        simp only [Act.put, List.setIfInBounds_toArray, List.set_cons_zero, List.set_cons_succ]
        obtain ⟨x0, x1, x2, x3, x4, x5, y0, y1, y2, y3, y4, y5⟩ := hT'.load
        go_simp
        refine HK.out _ _ ?_
        exact ⟨true, l1, l2, l3, l4, l5, l6, l7, _, _, _, _, _, _, rfl, rfl, fun _ => rfl, G1.out, G2.out, G3.out, G4.out, G5.out, G6.out, E6.out, E7.out, HB.out⟩
      · clear hi8
        obtain rfl := Option.some.inj ho
        simp [Region.binds] at hl hall
        subst hl
        clear ho
        obtain rfl := F0 hall
        clear hT'
        have G0 := Lib.hid F0
        have G1 := Lib.hid F1
        have G2 := Lib.hid F2
        have G3 := Lib.hid F3
        have G4 := Lib.hid F4
        have G5 := Lib.hid F5
        have G6 := Lib.hid F6
        have E6 := Lib.hid D6
        have E7 := Lib.hid D7
        have HB := Lib.hid hbel
        clear F0 F1 F2 F3 F4 F5 F6 D6 D7 hbel
        refine wpOp_step rfl (fun K hK => ?_)
        have HK := Lib.hid hK
        clear hK
        simp only [Act.put, List.setIfInBounds_toArray, List.set_cons_zero, List.set_cons_succ]
        go_simp
        refine (of_any _ _ _ _ _ _ _).mono ?_
        rintro e wz ⟨rfl, hbz⟩
        try go_wp2_with fail
        refine HK.out _ _ ?_
        exact ⟨l0, true, l2, l3, l4, l5, l6, l7, _, _, _, _, _, _, rfl, rfl, fun _ => rfl, fun _ => rfl, G2.out, G3.out, fun h => let ⟨p, e, hp, hb⟩ := G4.out h; ⟨p, e, hp, hb.below hbz hb.lt⟩, fun h => let ⟨p, e, hp, hb⟩ := G5.out h; ⟨p, e, hp, hb.below hbz hb.lt⟩, G6.out, E6.out, E7.out, HB.out.trans (hbz.mono HB.out.size)⟩
      · clear hi8
        obtain rfl := Option.some.inj ho
        simp [Region.binds] at hl hall
        subst hl
        clear ho
        have G0 := Lib.hid F0
        have G1 := Lib.hid F1
        have G2 := Lib.hid F2
        have G3 := Lib.hid F3
        have G4 := Lib.hid F4
        have G5 := Lib.hid F5
        have G6 := Lib.hid F6
        have E6 := Lib.hid D6
        have E7 := Lib.hid D7
        have HB := Lib.hid hbel
        clear F0 F1 F2 F3 F4 F5 F6 D6 D7 hbel
        refine wpOp_step rfl (fun K hK => ?_)
        have HK := Lib.hid hK
        clear hK
        simp only [Act.put, List.setIfInBounds_toArray, List.set_cons_zero, List.set_cons_succ]
        obtain ⟨x0, x1, x2, x3, x4, x5, y0, y1, y2, y3, y4, y5⟩ := hT'.load
        go_simp
        refine HK.out _ _ ?_
        exact ⟨l0, l1, true, l3, l4, l5, l6, l7, _, _, _, _, _, _, rfl, rfl, G0.out, G1.out, fun _ => rfl, G3.out, G4.out, G5.out, G6.out, E6.out, E7.out, HB.out⟩
      · clear hi8
        obtain rfl := Option.some.inj ho
        simp [Region.binds] at hl hall
        subst hl
        clear ho
        obtain rfl := F2 hall.1
        clear hT'
        have G0 := Lib.hid F0
        have G1 := Lib.hid F1
        have G2 := Lib.hid F2
        have G3 := Lib.hid F3
        have G4 := Lib.hid F4
        have G5 := Lib.hid F5
        have G6 := Lib.hid F6
        have E6 := Lib.hid D6
        have E7 := Lib.hid D7
        have HB := Lib.hid hbel
        clear F0 F1 F2 F3 F4 F5 F6 D6 D7 hbel
        refine wpOp_step rfl (fun K hK => ?_)
        have HK := Lib.hid hK
        clear hK
        simp only [Act.put, List.setIfInBounds_toArray, List.set_cons_zero, List.set_cons_succ]
        go_simp
        refine (of_any _ _ _ _ _ _ _).mono ?_
        rintro e wz ⟨rfl, hbz⟩
        try go_wp2_with fail
        refine HK.out _ _ ?_
        exact ⟨l0, l1, l2, true, l4, l5, l6, l7, _, _, _, _, _, _, rfl, rfl, G0.out, G1.out, fun _ => rfl, fun _ => rfl, fun h => let ⟨p, e, hp, hb⟩ := G4.out h; ⟨p, e, hp, hb.below hbz hb.lt⟩, fun h => let ⟨p, e, hp, hb⟩ := G5.out h; ⟨p, e, hp, hb.below hbz hb.lt⟩, G6.out, E6.out, E7.out, HB.out.trans (hbz.mono HB.out.size)⟩
      · clear hi8
        obtain rfl := Option.some.inj ho
        simp [Region.binds] at hl hall
        subst hl
        clear ho
        have h6 : l6 = false := by cases l6 with | false => rfl | true => exact absurd (D6 rfl) (by simp)
        subst h6
        clear hT' hall
        have G0 := Lib.hid F0
        have G1 := Lib.hid F1
        have G2 := Lib.hid F2
        have G3 := Lib.hid F3
        have G4 := Lib.hid F4
        have G5 := Lib.hid F5
        have G6 := Lib.hid F6
        have E6 := Lib.hid D6
        have E7 := Lib.hid D7
        have HB := Lib.hid hbel
        clear F0 F1 F2 F3 F4 F5 F6 D6 D7 hbel
        refine wpOp_step rfl (fun K hK => ?_)
        have HK := Lib.hid hK
        clear hK
        simp only [Act.put, List.setIfInBounds_toArray, List.set_cons_zero, List.set_cons_succ]
        go_simp
        refine HK.out _ _ ?_
        exact ⟨l0, l1, l2, l3, true, l5, false, l7, _, _, _, _, _, _, rfl, rfl, G0.out, G1.out, G2.out, G3.out, fun _ => ⟨w'.heap.size, rfl, HB.out.size, zer w'⟩, fun h => let ⟨p, e, hp, hb⟩ := G5.out h; ⟨p, e, hp, hb.alloc _⟩, fun _ h => by obtain ⟨q, e, hq, hb⟩ := G5.out h; have := hb.lt; rw [e]; intro e'; simp at e'; try omega, fun _ => rfl, E7.out, HB.out.alloc HB.out.size _⟩
      · clear hi8
        obtain rfl := Option.some.inj ho
        simp [Region.binds] at hl hall
        subst hl
        clear ho
        have h7 : l7 = false := by cases l7 with | false => rfl | true => exact absurd (D7 rfl) (by simp)
        subst h7
        clear hT' hall
        have G0 := Lib.hid F0
        have G1 := Lib.hid F1
        have G2 := Lib.hid F2
        have G3 := Lib.hid F3
        have G4 := Lib.hid F4
        have G5 := Lib.hid F5
        have G6 := Lib.hid F6
        have E6 := Lib.hid D6
        have E7 := Lib.hid D7
        have HB := Lib.hid hbel
        clear F0 F1 F2 F3 F4 F5 F6 D6 D7 hbel
        refine wpOp_step rfl (fun K hK => ?_)
        have HK := Lib.hid hK
        clear hK
        simp only [Act.put, List.setIfInBounds_toArray, List.set_cons_zero, List.set_cons_succ]
        go_simp
        refine HK.out _ _ ?_
        exact ⟨l0, l1, l2, l3, l4, true, l6, false, _, _, _, _, _, _, rfl, rfl, G0.out, G1.out, G2.out, G3.out, fun h => let ⟨p, e, hp, hb⟩ := G4.out h; ⟨p, e, hp, hb.alloc _⟩, fun _ => ⟨w'.heap.size, rfl, HB.out.size, zer w'⟩, fun h _ => by obtain ⟨q, e, hq, hb⟩ := G4.out h; have := hb.lt; rw [e]; intro e'; simp at e'; try omega, E6.out, fun _ => rfl, HB.out.alloc HB.out.size _⟩
      · clear hi8
        obtain rfl := Option.some.inj ho
        simp [Region.binds] at hl hall
        subst hl
        clear ho
        have hm : l4 = true := by simp [hall]
        have hv : l1 = true := by simp [hall]
        obtain ⟨p, rfl, hp, hb⟩ := F4 hm
        obtain rfl := F1 hv
        have HZ := Lib.hid (show IsBlk w' p S6.zero.cells7 29 from hb)
        have hz := hb.lt
        have hzf := (show IsBlk w' p S6.zero.cells7 29 from hb).frozen
        obtain ⟨c0, c1, c2, c3, c4, c5, c6⟩ := seven HZ.out
        have HP := Lib.hid hp
        have HM := Lib.hid hm
        clear hp hb hm hv hT' hall
        have G0 := Lib.hid F0
        have G1 := Lib.hid F1
        have G2 := Lib.hid F2
        have G3 := Lib.hid F3
        have G4 := Lib.hid F4
        have G5 := Lib.hid F5
        have G6 := Lib.hid F6
        have E6 := Lib.hid D6
        have E7 := Lib.hid D7
        have HB := Lib.hid hbel
        clear F0 F1 F2 F3 F4 F5 F6 D6 D7 hbel
        refine wpOp_step rfl (fun K hK => ?_)
        have HK := Lib.hid hK
        clear hK
        simp only [Act.put, List.setIfInBounds_toArray, List.set_cons_zero, List.set_cons_succ]
        go_simp
        refine HK.out _ _ ?_
        exact ⟨l0, l1, l2, l3, l4, l5, true, l7, _, _, _, _, _, _, rfl, rfl, G0.out, fun _ => rfl, G2.out, G3.out, fun _ => ⟨p, rfl, HP.out, (((((((HZ.out.set 0 _).set 1 _).set 2 _).set 3 _).set 4 _).set 5 _).set 6 _)⟩, fun h => by obtain ⟨q, e, hq, hq2⟩ := G5.out h; have hne : p ≠ q := (by intro e2; subst e2; exact G6.out HM.out h e.symm); exact ⟨q, e, hq, (((((((hq2.set_other hne _).set_other hne _).set_other hne _).set_other hne _).set_other hne _).set_other hne _).set_other hne _)⟩, G6.out, fun _ => HM.out, E7.out, (((((((HB.out.setCell HP.out _).setCell HP.out _).setCell HP.out _).setCell HP.out _).setCell HP.out _).setCell HP.out _).setCell HP.out _)⟩
      · clear hi8
        obtain rfl := Option.some.inj ho
        simp [Region.binds] at hl hall
        subst hl
        clear ho
        have hm : l5 = true := by simp [hall]
        have hv : l3 = true := by simp [hall]
        obtain ⟨p, rfl, hp, hb⟩ := F5 hm
        obtain rfl := F3 hv
        have HZ := Lib.hid (show IsBlk w' p S6.zero.cells7 29 from hb)
        have hz := hb.lt
        have hzf := (show IsBlk w' p S6.zero.cells7 29 from hb).frozen
        obtain ⟨c0, c1, c2, c3, c4, c5, c6⟩ := seven HZ.out
        have HP := Lib.hid hp
        have HM := Lib.hid hm
        clear hp hb hm hv hT' hall
        have G0 := Lib.hid F0
        have G1 := Lib.hid F1
        have G2 := Lib.hid F2
        have G3 := Lib.hid F3
        have G4 := Lib.hid F4
        have G5 := Lib.hid F5
        have G6 := Lib.hid F6
        have E6 := Lib.hid D6
        have E7 := Lib.hid D7
        have HB := Lib.hid hbel
        clear F0 F1 F2 F3 F4 F5 F6 D6 D7 hbel
        refine wpOp_step rfl (fun K hK => ?_)
        have HK := Lib.hid hK
        clear hK
        simp only [Act.put, List.setIfInBounds_toArray, List.set_cons_zero, List.set_cons_succ]
        go_simp
        refine HK.out _ _ ?_
        exact ⟨l0, l1, l2, l3, l4, l5, l6, true, _, _, _, _, _, _, rfl, rfl, G0.out, G1.out, G2.out, fun _ => rfl, fun h => by obtain ⟨q, e, hq, hq2⟩ := G4.out h; have hne : p ≠ q := (by intro e2; subst e2; exact G6.out h HM.out e); exact ⟨q, e, hq, (((((((hq2.set_other hne _).set_other hne _).set_other hne _).set_other hne _).set_other hne _).set_other hne _).set_other hne _)⟩, fun _ => ⟨p, rfl, HP.out, (((((((HZ.out.set 0 _).set 1 _).set 2 _).set 3 _).set 4 _).set 5 _).set 6 _)⟩, G6.out, E6.out, fun _ => HM.out, (((((((HB.out.setCell HP.out _).setCell HP.out _).setCell HP.out _).setCell HP.out _).setCell HP.out _).setCell HP.out _).setCell HP.out _)⟩
    · rintro l act w' ⟨l0, l1, l2, l3, l4, l5, l6, l7, u6, u7, u19, u20, u21, u22, rfl, rfl, F0, F1, F2, F3, F4, F5, F6, D6, D7, hbel⟩ hr
      have no : ∀ j, j ∈ Region.ready .any _ #[l0, l1, l2, l3, l4, l5, l6, l7] → False := fun j hj => by rw [hr] at hj; cases hj
      clear hr
      have n0 : l0 = true := by cases l0 with | true => rfl | false => exact (no 0 (mem_ready.2 ⟨rfl, _, rfl, by simp [Region.binds]⟩)).elim
      have n2 : l2 = true := by cases l2 with | true => rfl | false => exact (no 2 (mem_ready.2 ⟨rfl, _, rfl, by simp [Region.binds]⟩)).elim
      have n4 : l4 = true := by cases l4 with | true => rfl | false => exact (no 4 (mem_ready.2 ⟨rfl, _, rfl, by simp [Region.binds]⟩)).elim
      have n5 : l5 = true := by cases l5 with | true => rfl | false => exact (no 5 (mem_ready.2 ⟨rfl, _, rfl, by simp [Region.binds]⟩)).elim
      subst n0 n2 n4 n5
      have n1 : l1 = true := by cases l1 with | true => rfl | false => exact (no 1 (mem_ready.2 ⟨rfl, _, rfl, by simp [Region.binds]⟩)).elim
      subst n1
      have n3 : l3 = true := by cases l3 with | true => rfl | false => exact (no 3 (mem_ready.2 ⟨rfl, _, rfl, by simp [Region.binds]⟩)).elim
      subst n3
      have n6 : l6 = true := by cases l6 with | true => rfl | false => exact (no 6 (mem_ready.2 ⟨rfl, _, rfl, by simp [Region.binds]⟩)).elim
      subst n6
      have n7 : l7 = true := by cases l7 with | true => rfl | false => exact (no 7 (mem_ready.2 ⟨rfl, _, rfl, by simp [Region.binds]⟩)).elim
      subst n7
      clear no
      obtain ⟨p, rfl, hp, hb⟩ := F4 rfl
      obtain ⟨q, rfl, hq, hb2⟩ := F5 rfl
      have hA7 : Is7 w' p a := ⟨hb.lt, hb.cell 0, hb.cell 1, hb.cell 2, hb.cell 3, hb.cell 4, hb.cell 5, hb.cell 6⟩
      have hB7 : Is7 w' q b := ⟨hb2.lt, hb2.cell 0, hb2.cell 1, hb2.cell 2, hb2.cell 3, hb2.cell 4, hb2.cell 5, hb2.cell 6⟩
      have HA7 := Lib.hid hA7
      have HB7 := Lib.hid hB7
      have HBE := Lib.hid hbel
      clear hA7 hB7 hbel hb hb2 hp hq F0 F1 F2 F3 F4 F5 F6 D6 D7
      simp only [Act.put, List.setIfInBounds_toArray, List.set_cons_zero, List.set_cons_succ]
      go_wp2_with fail
      go_meet
      exact ⟨p, q, rfl, rfl, HA7.out, HB7.out, HBE.out⟩
  case rest =>
    obtain ⟨p, q, rfl, rfl, hp, hq, hb⟩ := hcut
    have HA3 := Lib.hid (HA2.out.below hb HA2.out.lt)
    have HB3 := Lib.hid (HB2.out.below hb HB2.out.lt)
    have HD3 := Lib.hid (HD.out.below hb)
    have HBW3 := Lib.hid (HBW2.out.trans (hb.mono HBW2.out.size))
    have HP := Lib.hid hp
    have HQ := Lib.hid hq
    clear hp hq hb x0 x1 x2 x3 x4 x5 y0 y1 y2 y3 y4 y5 hlt1 hlt2
    obtain ⟨i0, hi, hz0, hz1, hz2⟩ := info_parts info32
    go_wp2_with fail
    go_loopw [8, 9] (fun v i wr => ∃ k : Nat, k ≤ 6 ∧ i = .int .i64 ((k : Int) + 1) ∧ wr.ownsRow wc.heap.size 32 2 v (diffTo a b k).length (cellsT (diffTo a b k)) ∧ Below wc.heap.size wc wr) (fun _ i _ => 7 - (intOf i).toNat)
    case atStart => exact ⟨0, by omega, rfl, World.ownsRow_nil _ _ _ _, Below.refl _ _⟩
    case round =>
      obtain ⟨k, hk, rfl, hown, hbel⟩ := hrel
      by_cases hlt : k < 6
      · have hsu := diffTo_succ a b k
        have hfl := diffTo_len a b k
        have hca := (HP.out.below hbel).get k hlt
        have hcb := (HQ.out.below hbel).get k hlt
        obtain ⟨ga, hga⟩ : ∃ g, a.get ((k : Int) + 1) = g := ⟨_, rfl⟩
        obtain ⟨gb, hgb⟩ : ∃ g, b.get ((k : Int) + 1) = g := ⟨_, rfl⟩
        rw [hga] at hca hsu
        rw [hgb] at hcb hsu
        have hbs : wc.heap.size ≤ wr.heap.size := hbel.size
        have hki : (k : Int) ≤ 5 := by omega
        have hk7 : ((k : Int) + 1).toNat < 7 := by omega
        have hkn : ((k : Int) + 1).toNat = k + 1 := by omega
        clear hga hgb
        have HBE := Lib.hid hbel
        clear hbel
        cases hq : ga != gb with
        | true =>
          rw [hq, if_pos rfl] at hsu
          have HS := Lib.hid hsu
          clear hsu
          go_wp2_with fail
          go_quiet (fail)
          go_wp2_with (at_builtin; refine wpList_append_own _ rfl (.tmp 34) (.tmp 41) 26 rfl wc.heap.size 32 i0 (.agg #[.int .u64 0, .int .u64 0]) 2 16 Try.underlying26 hi hz0 hz1 hz2 rfl (by decide) _ _ _ rfl ((owns_drewN hown _).alloc _) ⟨wr.heap.size, 0, none⟩ 1 1 [.int .u64 ((k : Int) + 1), .int .u64 gb] rfl rfl (new_two _ _ _ _) (one_St _ _) (by unfold maxLen; omega) (by omega) (by simp; omega) ?_; intro v1 w1 hown1 hgrow1 hnil1)
          have hb2 := ((below_drewN HBE.out nq).alloc hbs (.cells #[.int .u64 ((k : Int) + 1), .int .u64 gb] 32)).grown hgrow1 (by simp; omega) (fun k hk => (hown.lt k hk).1)
          clear hgrow1 hnil1 hown hca hcb hk7 hkn
          go_roundw
          case rel => exact ⟨k + 1, by omega, by go_num, by rw [HS.out, List.length_append, cellsT_append]; exact hown1, hb2⟩
          case measure => simp [intOf]; omega
        | false =>
          rw [hq, if_neg (by simp), List.append_nil] at hsu
          have HS := Lib.hid hsu
          clear hsu
          go_wp2_with fail
          go_quiet (fail)
          go_wp2_with fail
          clear hca hcb hk7 hkn
          go_roundw
          case rel => exact ⟨k + 1, by omega, by go_num, by rw [HS.out]; exact owns_drewN hown nq, below_drewN HBE.out nq⟩
          case measure => simp [intOf]; omega
      · obtain rfl : k = 6 := by omega
        obtain ⟨a', cap', rfl, hs⟩ := IsT_own hown
        go_wp2_with fail
        have hfl := diffTo_len a b 6
        refine (settings_any _ _ _ _ _ _ _ (by omega) (by omega) (HD3.out.below hbel) hs).mono ?_
        rintro e w4 ⟨rfl, hb4⟩
        rw [show decide (diffTo a b 6 = diffTo a b 6) = true from by simp]
        generalize hD : diffTo a b 6 = D
        rw [hD] at hs HD3 hfl
        have HDD := Lib.hid hD
        have hb5 := hbel.trans (hb4.mono hbel.size)
        have HS4 := Lib.hid (hs.below hb4)
        have HD4 := Lib.hid ((HD3.out.below hbel).below hb4)
        have HA4 := Lib.hid (HA3.out.below hb5 HA3.out.lt)
        have HB4 := Lib.hid (HB3.out.below hb5 HB3.out.lt)
        have HP4 := Lib.hid (HP.out.below hb5)
        have HBW4 := Lib.hid (HBW3.out.trans (hb5.mono HBW3.out.size))
        clear hD hs hb4 hb5 hbel hown
        obtain ⟨x0, x1, x2, x3, x4, x5⟩ := six HA4.out
        go_wp2_with fail
        refine (apply_any a _ _ D _ (by omega) HD4.out).mono ?_
        rintro e w5 ⟨rfl, hb5⟩
        generalize hR : applyL a D = R
        have HR := Lib.hid hR
        have HS5 := Lib.hid (HS4.out.below hb5)
        have HB5 := Lib.hid (HB4.out.below hb5 HB4.out.lt)
        have HP5 := Lib.hid (HP4.out.below hb5)
        have HBW5 := Lib.hid (HBW4.out.trans (hb5.mono HBW4.out.size))
        clear hb5 hR x0 x1 x2 x3 x4 x5
        obtain ⟨p0, p1, p2, p3, p4, p5, p6, p7⟩ := HP5.out
        go_wp2_with fail
        refine (applyR_any a _ _ D _ (by omega) (HS5.out.below ((Below.refl _ _).alloc (Nat.le_refl _) _))).mono ?_
        rintro e w6 ⟨rfl, hb6⟩
        rw [HR.out]
        have HRB := Lib.hid ((IsBlk.new w5 [.int .u64 R.1.t, .int .u64 R.1.p, .int .u64 R.1.s, .int .u64 R.1.w, .int .u64 R.1.f, .int .u64 R.1.l] 24).below hb6 (by simp))
        have HB6 := Lib.hid ((HB5.out.alloc (.cells #[.int .u64 R.1.t, .int .u64 R.1.p, .int .u64 R.1.s, .int .u64 R.1.w, .int .u64 R.1.f, .int .u64 R.1.l] 24)).below hb6 (by have := HB5.out.lt; simp; omega))
        have HBW6 := Lib.hid ((HBW5.out.alloc HBW5.out.size (.cells #[.int .u64 R.1.t, .int .u64 R.1.p, .int .u64 R.1.s, .int .u64 R.1.w, .int .u64 R.1.f, .int .u64 R.1.l] 24)).trans (hb6.mono (by have := HBW5.out.size; simp; omega)))
        clear hb6 p0 p1 p2 p3 p4 p5 p6 p7
        obtain ⟨x0, x1, x2, x3, x4, x5⟩ := six HRB.out
        obtain ⟨y0, y1, y2, y3, y4, y5⟩ := six HB6.out
        cases hE : R.2 == 0 with
        | true =>
          have hz : R.2 = 0 := by simpa using hE
          have hRb : R.1 = b := by rw [← HR.out, ← HDD.out]; exact apply_diff a b (by rw [HDD.out, HR.out]; exact hz)
          have he := run_eqS b
          have hlx := HRB.out.lt
          have hly := HB6.out.lt
          rw [hRb] at x0 x1 x2 x3 x4 x5 ⊢
          rw [hz]
          clear hE hz hRb
          go_wp2_with fail
          go_ret
          exact ⟨rfl, HBW6.out.alloc HBW6.out.size _⟩
        | false =>
          have hE2 : (R.2 != 0) = true := by simp [bne, hE]
          go_wp2_with fail
          go_ret
          exact ⟨rfl, HBW6.out.alloc HBW6.out.size _⟩
end Go.Proofs.Ytokbekiihdabhaa
