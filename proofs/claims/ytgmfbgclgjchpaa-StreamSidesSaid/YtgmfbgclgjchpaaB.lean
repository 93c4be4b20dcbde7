/- The walk of the map of moves. Conditions: the two states are the two half-closed ones. -/
import Derived.Test.YtgmfbgclgjchpaaA
import Derived.Test.YtgmfbgclgjchpaaO
import Derived.Deep.CutBlock
import Derived.Deep.DeepCutAuto
import Derived.Outline
namespace Go.Proofs.Ytgmfbgclgjchpaa
open Go.RowKit Go.Maps Go.WideMaps

def st0 (half : Int) : Mv → Option Int := upd (upd (fun _ => none) (0, 1, false) (some 1)) (0, 1, true) (some half)
def kstep (st en k : Int) (f : Mv → Option Int) : Mv → Option Int := upd (upd f (st, k, false) (some st)) (st, k, true) (some en)
def lp1 (st en : Int) (f : Mv → Option Int) : Mv → Option Int := upd (kstep st en 0 (kstep st en 1 f)) (st, 9, false) (some st)
def lp3 (s : Int) (f : Mv → Option Int) : Mv → Option Int := upd (upd f (s, 3, false) (some 4)) (s, 8, false) (some s)
def lp4 (s : Int) (f : Mv → Option Int) : Mv → Option Int := upd f (s, 2, false) (some s)
def movesF (half other : Int) : Mv → Option Int :=
  lp4 4 (lp4 3 (lp4 2 (lp4 1 (lp4 0 (lp3 4 (lp3 3 (lp3 2 (lp3 1 (lp1 other 4 (lp1 1 half (st0 half)))))))))))

def F1 (half other : Int) : Nat → Mv → Option Int
  | 0 => st0 half
  | 1 => lp1 1 half (st0 half)
  | _ => lp1 other 4 (lp1 1 half (st0 half))
def F3 (half other : Int) : Nat → Mv → Option Int
  | 0 => F1 half other 2
  | 1 => lp3 1 (F1 half other 2)
  | 2 => lp3 2 (lp3 1 (F1 half other 2))
  | 3 => lp3 3 (lp3 2 (lp3 1 (F1 half other 2)))
  | _ => lp3 4 (lp3 3 (lp3 2 (lp3 1 (F1 half other 2))))
def F4 (half other : Int) : Nat → Mv → Option Int
  | 0 => F3 half other 4
  | 1 => lp4 0 (F3 half other 4)
  | 2 => lp4 1 (lp4 0 (F3 half other 4))
  | 3 => lp4 2 (lp4 1 (lp4 0 (F3 half other 4)))
  | 4 => lp4 3 (lp4 2 (lp4 1 (lp4 0 (F3 half other 4))))
  | _ => lp4 4 (lp4 3 (lp4 2 (lp4 1 (lp4 0 (F3 half other 4)))))
def F2 (st en : Int) (f : Mv → Option Int) : Nat → Mv → Option Int
  | 0 => f
  | 1 => kstep st en 1 f
  | _ => kstep st en 0 (kstep st en 1 f)

theorem upd_comm (f : Mv → Option Int) (k l : Mv) (v u : Option Int) (h : k ≠ l) : upd (upd f k v) l u = upd (upd f l u) k v := by
  funext x
  simp only [upd]
  by_cases h1 : x = k <;> by_cases h2 : x = l <;> simp_all

theorem wpList_store_M (w : World) {ops : Array Oper} {rest : List Oper} {o : Oper} {a : Act} {Q : Exit → Act → World → Prop}
    (hg : o.guard = none) (m x v : Operand) (hop : o.op = Op.mapUpdate 36 m x v) (b n : Nat) (f : Mv → Option Int)
    (hm : a.eval m = .map (some b)) (h : IsM w b n f) (hn : n < maxLen) (k : Mv) (val : Int) (hx : a.eval x = keyV k) (hv : a.eval v = .int .i64 val) (hk : OkM k) (hw : (Lit.int .i64 val).wf = true)
    (hK : ∀ w', IsM w' b (n + 1) (upd f k (some val)) → w.grownBy w' (some b) → wpList Try.prog ops Q rest (a.put o.dst undef) w') :
    wpList Try.prog ops Q (o :: rest) a w := by
  refine wpList_plain hg fun K' hK' => ?_
  obtain ⟨w', hrun, r1, r2⟩ := h.store k hk val hw hn
  unfold Oper.wp
  simp [execOp, hop, hm, hx, hv, hrun, Result.andThen]
  exact hK' _ _ (hK w' r1 r2)

theorem belowG {B b : Nat} {w w1 w2 : World} (h : Below B w w1) (hg : w1.grownBy w2 (some b)) (hs : B ≤ w1.heap.size) (hb : B ≤ b) : Below B w w2 := h.grown hg hs (fun k hk => by cases hk; exact hb)

set_option maxHeartbeats 2000000 in
theorem moves_any (half other : Int) (w : World) (hh : (half = 2 ∧ other = 3) ∨ (half = 3 ∧ other = 2)) :
    Calls Try.prog 9 #[.int .i64 half, .int .i64 other] w fun e w' => ∃ b n, e = .returned (.map (some b)) ∧ w.heap.size ≤ b ∧ n ≤ 100 ∧ IsM w' b n (movesF half other) ∧ Below w.heap.size w w' := by
  have hwh : (Lit.int .i64 half).wf = true := by rcases hh with ⟨rfl, _⟩ | ⟨rfl, _⟩ <;> decide
  have hmm := @run_makeMap Try.prog
  go_enter Try.func9, Try.ntmps9
  go_upto_region 1 with fail
  go_cut [5] (fun s5 wx => s5 = .map (some w.heap.size) ∧ IsM wx w.heap.size 10 (st0 half) ∧ Below w.heap.size w wx)
  case first =>
    obtain ⟨w1, r1, m1, g1⟩ := (IsM.made w).drew.store (0, 1, false) ⟨by decide, by decide⟩ 1 (by decide) (by decide)
    obtain ⟨w2, r2, m2, g2⟩ := m1.store (0, 1, true) ⟨by decide, by decide⟩ half hwh (by decide)
    obtain ⟨w3, r3, m3, g3⟩ := (IsM.made w).drew.store (0, 1, true) ⟨by decide, by decide⟩ half hwh (by decide)
    obtain ⟨w4, r4, m4, g4⟩ := m3.store (0, 1, false) ⟨by decide, by decide⟩ 1 (by decide) (by decide)
    simp only [keyV] at r1 r2 r3 r4
    have M2 := Lib.hid m2
    have M4 := Lib.hid m4
    have G1 := Lib.hid g1
    have G2 := Lib.hid g2
    have G3 := Lib.hid g3
    have G4 := Lib.hid g4
    clear m1 m2 m3 m4 g1 g2 g3 g4 hh
    go_region
    all_goals
      go_wp2_with fail
      go_meet
    · refine ⟨rfl, M2.out.mono (by omega), belowG (belowG ((Below.refl _ _).alloc (Nat.le_refl _) _).drew G1.out (by simp) (Nat.le_refl _)) G2.out ?_ (Nat.le_refl _)⟩
      have := G1.out.size
      simp at this
      omega
    · refine ⟨rfl, ?_, belowG (belowG ((Below.refl _ _).alloc (Nat.le_refl _) _).drew G3.out (by simp) (Nat.le_refl _)) G4.out ?_ (Nat.le_refl _)⟩
      · have := M4.out.mono (m := 10) (by omega)
        rw [upd_comm _ _ _ _ _ (by decide)] at this
        exact this
      · have := G3.out.size
        simp at this
        omega
  case rest =>
    obtain ⟨rfl, hM, hb⟩ := hcut
    have hwo : (Lit.int .i64 other).wf = true := by rcases hh with ⟨_, rfl⟩ | ⟨_, rfl⟩ <;> decide
    have hne : ((1 : Int) == other) = false := by rcases hh with ⟨_, rfl⟩ | ⟨_, rfl⟩ <;> rfl
    have HH := Lib.hid hh
    have HM := Lib.hid hM
    have HB := Lib.hid hb
    clear hh hM hb
    go_wp2_with fail
    generalize hW : wc.alloc (.cells #[.int .i64 1, .int .i64 other] 3) = W
    have HS := Lib.hid (show IsBlk W wc.heap.size [.int .i64 1, .int .i64 other] 3 from by rw [← hW]; exact IsBlk.new _ _ _)
    have HM1 := Lib.hid (show IsM W w.heap.size 10 (st0 half) from by rw [← hW]; exact HM.out.alloc _)
    have HB1 := Lib.hid (show Below w.heap.size w W from by rw [← hW]; exact HB.out.alloc HB.out.size _)
    have HN := Lib.hid (show w.heap.size < wc.heap.size from HM.out.lt)
    clear hW HM HB
    go_loopw [7, 8, 10, 22] (fun _ _ _ i wr => ∃ k : Nat, k ≤ 2 ∧ i = .int .i64 (k : Int) ∧ IsM wr w.heap.size (10 + 5 * k) (F1 half other k) ∧ IsBlk wr wc.heap.size [.int .i64 1, .int .i64 other] 3 ∧ Below w.heap.size w wr) (fun _ _ _ i _ => 2 - (intOf i).toNat)
    case atStart => exact ⟨0, by omega, rfl, HM1.out, HS.out, HB1.out⟩
    case round =>
      obtain ⟨k, hk, hi, hM, hS, hbel⟩ := hrel
      have d0 := hS.cell 0
      have d1 := hS.cell 1
      have HMR := Lib.hid hM
      have HSR := Lib.hid hS
      have HBR := Lib.hid hbel
      clear hM hS hbel HM1 HS HB1
      rcases (show k = 0 ∨ k = 1 ∨ k = 2 from by omega) with rfl | rfl | rfl
      · clear hk
        have hi2 : _ = Value.int .i64 0 := hi
        clear hi
        subst hi2
        simp at d0 d1
        · go_wp2_with fail
          generalize hW2 : wr.alloc (.cells #[.int .u8 1, .int .u8 0] 5) = W2
          have HS2 := Lib.hid (show IsBlk W2 wr.heap.size [.int .u8 1, .int .u8 0] 5 from by rw [← hW2]; exact IsBlk.new _ _ _)
          have HS1 := Lib.hid (show IsBlk W2 wc.heap.size [.int .i64 1, .int .i64 other] 3 from by rw [← hW2]; exact HSR.out.alloc _)
          have HM2 := Lib.hid (show IsM W2 w.heap.size 10 (F1 half other 0) from by rw [← hW2]; exact HMR.out.alloc _)
          have HB2 := Lib.hid (show Below w.heap.size w W2 from by rw [← hW2]; exact HBR.out.alloc HBR.out.size _)
          have HN2 := Lib.hid (show w.heap.size < wr.heap.size from HMR.out.lt)
          clear hW2
          go_loopw [10, 32] (fun _ j wi => ∃ m : Nat, m ≤ 2 ∧ j = .int .i64 (m : Int) ∧ IsM wi w.heap.size (10 + 2 * m) (F2 1 half (F1 half other 0) m) ∧ IsBlk wi wc.heap.size [.int .i64 1, .int .i64 other] 3 ∧ IsBlk wi wr.heap.size [.int .u8 1, .int .u8 0] 5 ∧ Below w.heap.size w wi) (fun _ j _ => 2 - (intOf j).toNat)
          case atStart => exact ⟨0, by omega, rfl, HM2.out, HS1.out, HS2.out, HB2.out⟩
          case round =>
            obtain ⟨m, hm, hi, hM, hS, hS2, hbel⟩ := hrel
            have c0 := hS2.cell 0
            have c1 := hS2.cell 1
            have HMM := Lib.hid hM
            have HSS := Lib.hid hS
            have HSS2 := Lib.hid hS2
            have HBB := Lib.hid hbel
            clear hM hS hS2 hbel
            rcases (show m = 0 ∨ m = 1 ∨ m = 2 from by omega) with rfl | rfl | rfl
            · clear hm
              have hi2 : _ = Value.int .i64 0 := hi
              clear hi
              subst hi2
              simp at c0 c1
              go_wp2_with (first | (at_mapUpdate; refine wpList_store_M _ rfl _ _ _ rfl w.heap.size _ _ rfl HMM.out (by unfold maxLen; omega) (1, 1, false) 1 rfl rfl ⟨by decide, by decide⟩ (by decide) ?_; intro v1 hm1 hg1) | (at_mapUpdate; refine wpList_store_M _ rfl _ _ _ rfl w.heap.size _ _ rfl hm1 (by unfold maxLen; omega) (1, 1, true) half rfl rfl ⟨by decide, by decide⟩ hwh ?_; intro v2 hm2 hg2))
              have HG1 := Lib.hid hg1
              clear hg1 hm1
              have HG2 := Lib.hid hg2
              have HM2' := Lib.hid hm2
              clear hg2 hm2 c0 c1
              go_roundw
              case rel => exact ⟨1, by omega, by go_num, HM2'.out.mono (by omega), (HSS.out.grown HG1.out (by have := HN.out; simp; omega)).grown HG2.out (by have := HN.out; simp; omega), (HSS2.out.grown HG1.out (by have := HN2.out; simp; omega)).grown HG2.out (by have := HN2.out; simp; omega), belowG (belowG HBB.out HG1.out HBB.out.size (Nat.le_refl _)) HG2.out (Nat.le_trans HBB.out.size HG1.out.size) (Nat.le_refl _)⟩
              case measure => simp [intOf]
            · clear hm
              have hi2 : _ = Value.int .i64 1 := hi
              clear hi
              subst hi2
              simp at c0 c1
              go_wp2_with (first | (at_mapUpdate; refine wpList_store_M _ rfl _ _ _ rfl w.heap.size _ _ rfl HMM.out (by unfold maxLen; omega) (1, 0, false) 1 rfl rfl ⟨by decide, by decide⟩ (by decide) ?_; intro v1 hm1 hg1) | (at_mapUpdate; refine wpList_store_M _ rfl _ _ _ rfl w.heap.size _ _ rfl hm1 (by unfold maxLen; omega) (1, 0, true) half rfl rfl ⟨by decide, by decide⟩ hwh ?_; intro v2 hm2 hg2))
              have HG1 := Lib.hid hg1
              clear hg1 hm1
              have HG2 := Lib.hid hg2
              have HM2' := Lib.hid hm2
              clear hg2 hm2 c0 c1
              go_roundw
              case rel => exact ⟨2, by omega, by go_num, HM2'.out.mono (by omega), (HSS.out.grown HG1.out (by have := HN.out; simp; omega)).grown HG2.out (by have := HN.out; simp; omega), (HSS2.out.grown HG1.out (by have := HN2.out; simp; omega)).grown HG2.out (by have := HN2.out; simp; omega), belowG (belowG HBB.out HG1.out HBB.out.size (Nat.le_refl _)) HG2.out (Nat.le_trans HBB.out.size HG1.out.size) (Nat.le_refl _)⟩
              case measure => simp [intOf]
            · clear hm c0 c1
              have hi2 : _ = Value.int .i64 2 := hi
              clear hi
              subst hi2
              go_wp2_with (first | (at_mapUpdate; refine wpList_store_M _ rfl _ _ _ rfl w.heap.size _ _ rfl HMM.out (by unfold maxLen; omega) (1, 9, false) 1 rfl rfl ⟨by decide, by decide⟩ (by decide) ?_; intro v1 hm1 hg1))
              have HG1 := Lib.hid hg1
              have HM1' := Lib.hid hm1
              clear hg1 hm1
              go_roundw
              case rel => exact ⟨1, by omega, by go_num, HM1'.out.mono (by omega), HSS.out.grown HG1.out (by have := HN.out; simp; omega), belowG HBB.out HG1.out HBB.out.size (Nat.le_refl _)⟩
              case measure => simp [intOf]
      · clear hk
        have hi2 : _ = Value.int .i64 1 := hi
        clear hi
        subst hi2
        simp at d0 d1
        · go_wp2_with fail
          generalize hW2 : wr.alloc (.cells #[.int .u8 1, .int .u8 0] 5) = W2
          have HS2 := Lib.hid (show IsBlk W2 wr.heap.size [.int .u8 1, .int .u8 0] 5 from by rw [← hW2]; exact IsBlk.new _ _ _)
          have HS1 := Lib.hid (show IsBlk W2 wc.heap.size [.int .i64 1, .int .i64 other] 3 from by rw [← hW2]; exact HSR.out.alloc _)
          have HM2 := Lib.hid (show IsM W2 w.heap.size 15 (F1 half other 1) from by rw [← hW2]; exact HMR.out.alloc _)
          have HB2 := Lib.hid (show Below w.heap.size w W2 from by rw [← hW2]; exact HBR.out.alloc HBR.out.size _)
          have HN2 := Lib.hid (show w.heap.size < wr.heap.size from HMR.out.lt)
          clear hW2
          go_loopw [10, 32] (fun _ j wi => ∃ m : Nat, m ≤ 2 ∧ j = .int .i64 (m : Int) ∧ IsM wi w.heap.size (15 + 2 * m) (F2 other 4 (F1 half other 1) m) ∧ IsBlk wi wc.heap.size [.int .i64 1, .int .i64 other] 3 ∧ IsBlk wi wr.heap.size [.int .u8 1, .int .u8 0] 5 ∧ Below w.heap.size w wi) (fun _ j _ => 2 - (intOf j).toNat)
          case atStart => exact ⟨0, by omega, rfl, HM2.out, HS1.out, HS2.out, HB2.out⟩
          case round =>
            obtain ⟨m, hm, hi, hM, hS, hS2, hbel⟩ := hrel
            have c0 := hS2.cell 0
            have c1 := hS2.cell 1
            have HMM := Lib.hid hM
            have HSS := Lib.hid hS
            have HSS2 := Lib.hid hS2
            have HBB := Lib.hid hbel
            clear hM hS hS2 hbel
            rcases (show m = 0 ∨ m = 1 ∨ m = 2 from by omega) with rfl | rfl | rfl
            · clear hm
              have hi2 : _ = Value.int .i64 0 := hi
              clear hi
              subst hi2
              simp at c0 c1
              go_wp2_with (first | (at_mapUpdate; refine wpList_store_M _ rfl _ _ _ rfl w.heap.size _ _ rfl HMM.out (by unfold maxLen; omega) (other, 1, false) other rfl rfl ⟨hwo, (show (Lit.int .u8 1).wf = true by decide)⟩ hwo ?_; intro v1 hm1 hg1) | (at_mapUpdate; refine wpList_store_M _ rfl _ _ _ rfl w.heap.size _ _ rfl hm1 (by unfold maxLen; omega) (other, 1, true) 4 rfl rfl ⟨hwo, (show (Lit.int .u8 1).wf = true by decide)⟩ (by decide) ?_; intro v2 hm2 hg2))
              have HG1 := Lib.hid hg1
              clear hg1 hm1
              have HG2 := Lib.hid hg2
              have HM2' := Lib.hid hm2
              clear hg2 hm2 c0 c1
              go_roundw
              case rel => exact ⟨1, by omega, by go_num, HM2'.out.mono (by omega), (HSS.out.grown HG1.out (by have := HN.out; simp; omega)).grown HG2.out (by have := HN.out; simp; omega), (HSS2.out.grown HG1.out (by have := HN2.out; simp; omega)).grown HG2.out (by have := HN2.out; simp; omega), belowG (belowG HBB.out HG1.out HBB.out.size (Nat.le_refl _)) HG2.out (Nat.le_trans HBB.out.size HG1.out.size) (Nat.le_refl _)⟩
              case measure => simp [intOf]
            · clear hm
              have hi2 : _ = Value.int .i64 1 := hi
              clear hi
              subst hi2
              simp at c0 c1
              go_wp2_with (first | (at_mapUpdate; refine wpList_store_M _ rfl _ _ _ rfl w.heap.size _ _ rfl HMM.out (by unfold maxLen; omega) (other, 0, false) other rfl rfl ⟨hwo, (show (Lit.int .u8 0).wf = true by decide)⟩ hwo ?_; intro v1 hm1 hg1) | (at_mapUpdate; refine wpList_store_M _ rfl _ _ _ rfl w.heap.size _ _ rfl hm1 (by unfold maxLen; omega) (other, 0, true) 4 rfl rfl ⟨hwo, (show (Lit.int .u8 0).wf = true by decide)⟩ (by decide) ?_; intro v2 hm2 hg2))
              have HG1 := Lib.hid hg1
              clear hg1 hm1
              have HG2 := Lib.hid hg2
              have HM2' := Lib.hid hm2
              clear hg2 hm2 c0 c1
              go_roundw
              case rel => exact ⟨2, by omega, by go_num, HM2'.out.mono (by omega), (HSS.out.grown HG1.out (by have := HN.out; simp; omega)).grown HG2.out (by have := HN.out; simp; omega), (HSS2.out.grown HG1.out (by have := HN2.out; simp; omega)).grown HG2.out (by have := HN2.out; simp; omega), belowG (belowG HBB.out HG1.out HBB.out.size (Nat.le_refl _)) HG2.out (Nat.le_trans HBB.out.size HG1.out.size) (Nat.le_refl _)⟩
              case measure => simp [intOf]
            · clear hm c0 c1
              have hi2 : _ = Value.int .i64 2 := hi
              clear hi
              subst hi2
              go_wp2_with (first | (at_mapUpdate; refine wpList_store_M _ rfl _ _ _ rfl w.heap.size _ _ rfl HMM.out (by unfold maxLen; omega) (other, 9, false) other rfl rfl ⟨hwo, (show (Lit.int .u8 9).wf = true by decide)⟩ hwo ?_; intro v1 hm1 hg1))
              have HG1 := Lib.hid hg1
              have HM1' := Lib.hid hm1
              clear hg1 hm1
              go_roundw
              case rel => exact ⟨2, by omega, by go_num, HM1'.out.mono (by omega), HSS.out.grown HG1.out (by have := HN.out; simp; omega), belowG HBB.out HG1.out HBB.out.size (Nat.le_refl _)⟩
              case measure => simp [intOf]
      · clear hk d0 d1
        have hi2 : _ = Value.int .i64 2 := hi
        clear hi
        subst hi2
        go_wp2_with fail
        generalize hW3 : wr.alloc (.cells #[.int .i64 1, .int .i64 2, .int .i64 3, .int .i64 4] 3) = W3
        have HS3 := Lib.hid (show IsBlk W3 wr.heap.size [.int .i64 1, .int .i64 2, .int .i64 3, .int .i64 4] 3 from by rw [← hW3]; exact IsBlk.new _ _ _)
        have HM3 := Lib.hid (show IsM W3 w.heap.size 20 (F1 half other 2) from by rw [← hW3]; exact HMR.out.alloc _)
        have HB3 := Lib.hid (show Below w.heap.size w W3 from by rw [← hW3]; exact HBR.out.alloc HBR.out.size _)
        have HN3 := Lib.hid (show w.heap.size < wr.heap.size from HMR.out.lt)
        clear hW3
        go_loopw [12, 54] (fun _ j wi => ∃ m : Nat, m ≤ 4 ∧ j = .int .i64 (m : Int) ∧ IsM wi w.heap.size (20 + 2 * m) (F3 half other m) ∧ IsBlk wi wr.heap.size [.int .i64 1, .int .i64 2, .int .i64 3, .int .i64 4] 3 ∧ Below w.heap.size w wi) (fun _ j _ => 4 - (intOf j).toNat)
        case atStart => exact ⟨0, by omega, rfl, HM3.out, HS3.out, HB3.out⟩
        case round =>
          obtain ⟨m, hm, hi, hM, hS, hbel⟩ := hrel
          have c0 := hS.cell 0
          have c1 := hS.cell 1
          have c2 := hS.cell 2
          have c3 := hS.cell 3
          have HMM := Lib.hid hM
          have HSS := Lib.hid hS
          have HBB := Lib.hid hbel
          clear hM hS hbel
          rcases (show m = 0 ∨ m = 1 ∨ m = 2 ∨ m = 3 ∨ m = 4 from by omega) with rfl | rfl | rfl | rfl | rfl
          · clear hm
            have hi2 : _ = Value.int .i64 0 := hi
            clear hi
            subst hi2
            simp at c0 c1 c2 c3
            go_wp2_with (first | (at_mapUpdate; refine wpList_store_M _ rfl _ _ _ rfl w.heap.size _ _ rfl HMM.out (by unfold maxLen; omega) (1, 3, false) 4 rfl rfl ⟨by decide, by decide⟩ (by decide) ?_; intro v1 hm1 hg1) | (at_mapUpdate; refine wpList_store_M _ rfl _ _ _ rfl w.heap.size _ _ rfl hm1 (by unfold maxLen; omega) (1, 8, false) 1 rfl rfl ⟨by decide, by decide⟩ (by decide) ?_; intro v2 hm2 hg2))
            have HG1 := Lib.hid hg1
            have HG2 := Lib.hid hg2
            have HM2' := Lib.hid hm2
            clear hg1 hm1 hg2 hm2 c0 c1 c2 c3
            go_roundw
            case rel => exact ⟨1, by omega, by go_num, HM2'.out.mono (by omega), (HSS.out.grown HG1.out (by have := HN3.out; simp; omega)).grown HG2.out (by have := HN3.out; simp; omega), belowG (belowG HBB.out HG1.out HBB.out.size (Nat.le_refl _)) HG2.out (Nat.le_trans HBB.out.size HG1.out.size) (Nat.le_refl _)⟩
            case measure => simp [intOf]
          · clear hm
            have hi2 : _ = Value.int .i64 1 := hi
            clear hi
            subst hi2
            simp at c0 c1 c2 c3
            go_wp2_with (first | (at_mapUpdate; refine wpList_store_M _ rfl _ _ _ rfl w.heap.size _ _ rfl HMM.out (by unfold maxLen; omega) (2, 3, false) 4 rfl rfl ⟨by decide, by decide⟩ (by decide) ?_; intro v1 hm1 hg1) | (at_mapUpdate; refine wpList_store_M _ rfl _ _ _ rfl w.heap.size _ _ rfl hm1 (by unfold maxLen; omega) (2, 8, false) 2 rfl rfl ⟨by decide, by decide⟩ (by decide) ?_; intro v2 hm2 hg2))
            have HG1 := Lib.hid hg1
            have HG2 := Lib.hid hg2
            have HM2' := Lib.hid hm2
            clear hg1 hm1 hg2 hm2 c0 c1 c2 c3
            go_roundw
            case rel => exact ⟨2, by omega, by go_num, HM2'.out.mono (by omega), (HSS.out.grown HG1.out (by have := HN3.out; simp; omega)).grown HG2.out (by have := HN3.out; simp; omega), belowG (belowG HBB.out HG1.out HBB.out.size (Nat.le_refl _)) HG2.out (Nat.le_trans HBB.out.size HG1.out.size) (Nat.le_refl _)⟩
            case measure => simp [intOf]
          · clear hm
            have hi2 : _ = Value.int .i64 2 := hi
            clear hi
            subst hi2
            simp at c0 c1 c2 c3
            go_wp2_with (first | (at_mapUpdate; refine wpList_store_M _ rfl _ _ _ rfl w.heap.size _ _ rfl HMM.out (by unfold maxLen; omega) (3, 3, false) 4 rfl rfl ⟨by decide, by decide⟩ (by decide) ?_; intro v1 hm1 hg1) | (at_mapUpdate; refine wpList_store_M _ rfl _ _ _ rfl w.heap.size _ _ rfl hm1 (by unfold maxLen; omega) (3, 8, false) 3 rfl rfl ⟨by decide, by decide⟩ (by decide) ?_; intro v2 hm2 hg2))
            have HG1 := Lib.hid hg1
            have HG2 := Lib.hid hg2
            have HM2' := Lib.hid hm2
            clear hg1 hm1 hg2 hm2 c0 c1 c2 c3
            go_roundw
            case rel => exact ⟨3, by omega, by go_num, HM2'.out.mono (by omega), (HSS.out.grown HG1.out (by have := HN3.out; simp; omega)).grown HG2.out (by have := HN3.out; simp; omega), belowG (belowG HBB.out HG1.out HBB.out.size (Nat.le_refl _)) HG2.out (Nat.le_trans HBB.out.size HG1.out.size) (Nat.le_refl _)⟩
            case measure => simp [intOf]
          · clear hm
            have hi2 : _ = Value.int .i64 3 := hi
            clear hi
            subst hi2
            simp at c0 c1 c2 c3
            go_wp2_with (first | (at_mapUpdate; refine wpList_store_M _ rfl _ _ _ rfl w.heap.size _ _ rfl HMM.out (by unfold maxLen; omega) (4, 3, false) 4 rfl rfl ⟨by decide, by decide⟩ (by decide) ?_; intro v1 hm1 hg1) | (at_mapUpdate; refine wpList_store_M _ rfl _ _ _ rfl w.heap.size _ _ rfl hm1 (by unfold maxLen; omega) (4, 8, false) 4 rfl rfl ⟨by decide, by decide⟩ (by decide) ?_; intro v2 hm2 hg2))
            have HG1 := Lib.hid hg1
            have HG2 := Lib.hid hg2
            have HM2' := Lib.hid hm2
            clear hg1 hm1 hg2 hm2 c0 c1 c2 c3
            go_roundw
            case rel => exact ⟨4, by omega, by go_num, HM2'.out.mono (by omega), (HSS.out.grown HG1.out (by have := HN3.out; simp; omega)).grown HG2.out (by have := HN3.out; simp; omega), belowG (belowG HBB.out HG1.out HBB.out.size (Nat.le_refl _)) HG2.out (Nat.le_trans HBB.out.size HG1.out.size) (Nat.le_refl _)⟩
            case measure => simp [intOf]
          · clear hm c0 c1 c2 c3
            have hi2 : _ = Value.int .i64 4 := hi
            clear hi
            subst hi2
            have HM4 := Lib.hid HMM.out
            have HB4 := Lib.hid HBB.out
            clear HMM HBB HSS
            rename World => w5
            go_wp2_with fail
            go_loopw [13] (fun j wi => ∃ m : Nat, m ≤ 5 ∧ j = .int .i64 (m : Int) ∧ IsM wi w.heap.size (28 + m) (F4 half other m) ∧ Below w.heap.size w wi) (fun j _ => 5 - (intOf j).toNat)
            case atStart => exact ⟨0, by omega, rfl, HM4.out, HB4.out⟩
            case round =>
              obtain ⟨m, hm, hi, hM, hbel⟩ := hrel
              have HMM := Lib.hid hM
              have HBB := Lib.hid hbel
              clear hM hbel
              rcases (show m = 0 ∨ m = 1 ∨ m = 2 ∨ m = 3 ∨ m = 4 ∨ m = 5 from by omega) with rfl | rfl | rfl | rfl | rfl | rfl
              · clear hm
                have hi2 : _ = Value.int .i64 0 := hi
                clear hi
                subst hi2
                go_wp2_with (first | (at_mapUpdate; refine wpList_store_M _ rfl _ _ _ rfl w.heap.size _ _ rfl HMM.out (by unfold maxLen; omega) (0, 2, false) 0 rfl rfl ⟨by decide, by decide⟩ (by decide) ?_; intro v1 hm1 hg1))
                have HG1 := Lib.hid hg1
                have HM1' := Lib.hid hm1
                clear hg1 hm1
                go_roundw
                case rel => exact ⟨1, by omega, by go_num, HM1'.out.mono (by omega), belowG HBB.out HG1.out HBB.out.size (Nat.le_refl _)⟩
                case measure => simp [intOf]
              · clear hm
                have hi2 : _ = Value.int .i64 1 := hi
                clear hi
                subst hi2
                go_wp2_with (first | (at_mapUpdate; refine wpList_store_M _ rfl _ _ _ rfl w.heap.size _ _ rfl HMM.out (by unfold maxLen; omega) (1, 2, false) 1 rfl rfl ⟨by decide, by decide⟩ (by decide) ?_; intro v1 hm1 hg1))
                have HG1 := Lib.hid hg1
                have HM1' := Lib.hid hm1
                clear hg1 hm1
                go_roundw
                case rel => exact ⟨2, by omega, by go_num, HM1'.out.mono (by omega), belowG HBB.out HG1.out HBB.out.size (Nat.le_refl _)⟩
                case measure => simp [intOf]
              · clear hm
                have hi2 : _ = Value.int .i64 2 := hi
                clear hi
                subst hi2
                go_wp2_with (first | (at_mapUpdate; refine wpList_store_M _ rfl _ _ _ rfl w.heap.size _ _ rfl HMM.out (by unfold maxLen; omega) (2, 2, false) 2 rfl rfl ⟨by decide, by decide⟩ (by decide) ?_; intro v1 hm1 hg1))
                have HG1 := Lib.hid hg1
                have HM1' := Lib.hid hm1
                clear hg1 hm1
                go_roundw
                case rel => exact ⟨3, by omega, by go_num, HM1'.out.mono (by omega), belowG HBB.out HG1.out HBB.out.size (Nat.le_refl _)⟩
                case measure => simp [intOf]
              · clear hm
                have hi2 : _ = Value.int .i64 3 := hi
                clear hi
                subst hi2
                go_wp2_with (first | (at_mapUpdate; refine wpList_store_M _ rfl _ _ _ rfl w.heap.size _ _ rfl HMM.out (by unfold maxLen; omega) (3, 2, false) 3 rfl rfl ⟨by decide, by decide⟩ (by decide) ?_; intro v1 hm1 hg1))
                have HG1 := Lib.hid hg1
                have HM1' := Lib.hid hm1
                clear hg1 hm1
                go_roundw
                case rel => exact ⟨4, by omega, by go_num, HM1'.out.mono (by omega), belowG HBB.out HG1.out HBB.out.size (Nat.le_refl _)⟩
                case measure => simp [intOf]
              · clear hm
                have hi2 : _ = Value.int .i64 4 := hi
                clear hi
                subst hi2
                go_wp2_with (first | (at_mapUpdate; refine wpList_store_M _ rfl _ _ _ rfl w.heap.size _ _ rfl HMM.out (by unfold maxLen; omega) (4, 2, false) 4 rfl rfl ⟨by decide, by decide⟩ (by decide) ?_; intro v1 hm1 hg1))
                have HG1 := Lib.hid hg1
                have HM1' := Lib.hid hm1
                clear hg1 hm1
                go_roundw
                case rel => exact ⟨5, by omega, by go_num, HM1'.out.mono (by omega), belowG HBB.out HG1.out HBB.out.size (Nat.le_refl _)⟩
                case measure => simp [intOf]
              · clear hm
                have hi2 : _ = Value.int .i64 5 := hi
                clear hi
                subst hi2
                go_wp2_with fail
                go_ret
                exact ⟨_, 33, rfl, Nat.le_refl _, by omega, HMM.out, HBB.out⟩
end Go.Proofs.Ytgmfbgclgjchpaa
