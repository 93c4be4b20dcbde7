/- The walk of the document's 'Apply'. Conditions: the list's cells are where the slice says. Printed by gen13e.py. -/
import Derived.Test.YtokbekiihdabhaaD
namespace Go.Proofs.Ytokbekiihdabhaa
open Go.RowKit

theorem seven {w : World} {n : Nat} {t : TypeId} {v0 v1 v2 v3 v4 v5 v6 : Value} (h : IsBlk w n [v0, v1, v2, v3, v4, v5, v6] t) :
    w.cell? ⟨n, 0, none⟩ = some v0 ∧ w.cell? ⟨n, 1, none⟩ = some v1 ∧ w.cell? ⟨n, 2, none⟩ = some v2 ∧ w.cell? ⟨n, 3, none⟩ = some v3 ∧ w.cell? ⟨n, 4, none⟩ = some v4 ∧ w.cell? ⟨n, 5, none⟩ = some v5 ∧ w.cell? ⟨n, 6, none⟩ = some v6 :=
  ⟨h.cell 0, h.cell 1, h.cell 2, h.cell 3, h.cell 4, h.cell 5, h.cell 6⟩
theorem wrongN_cases (id v : Int) : (id = 2 ∧ 1 < v ∧ wrongN id v = 34) ∨ (id = 4 ∧ 2147483647 < v ∧ wrongN id v = 31) ∨ (id = 5 ∧ v < 16384 ∧ wrongN id v = 34) ∨ (id = 5 ∧ 16777215 < v ∧ wrongN id v = 34) ∨
    (id = 1 ∧ wrongN id v = 0) ∨ (id = 2 ∧ v ≤ 1 ∧ wrongN id v = 0) ∨ (id = 3 ∧ wrongN id v = 0) ∨ (id = 4 ∧ v ≤ 2147483647 ∧ wrongN id v = 0) ∨ (id = 5 ∧ 16384 ≤ v ∧ v ≤ 16777215 ∧ wrongN id v = 0) ∨ (id = 6 ∧ wrongN id v = 0) ∨ (id < 1 ∧ wrongN id v = 0) ∨ (6 < id ∧ wrongN id v = 0) := by
  have g : ∀ (i : Int), i ≠ 2 → i ≠ 5 → i ≠ 4 → wrongN i v = 0 := fun i h1 h2 h3 => by unfold wrongN; rw [if_neg (by omega), if_neg (by omega), if_neg (by omega)]
  rcases (show id = 1 ∨ id = 2 ∨ id = 3 ∨ id = 4 ∨ id = 5 ∨ id = 6 ∨ id < 1 ∨ 6 < id from by omega) with rfl | rfl | rfl | rfl | rfl | rfl | h | h
  · exact .inr (.inr (.inr (.inr (.inl ⟨rfl, g 1 (by decide) (by decide) (by decide)⟩))))
  · by_cases hv : 1 < v
    · exact .inl ⟨rfl, hv, by unfold wrongN; rw [if_pos ⟨rfl, hv⟩]⟩
    · exact .inr (.inr (.inr (.inr (.inr (.inl ⟨rfl, by omega, by unfold wrongN; rw [if_neg (by omega), if_neg (by omega), if_neg (by omega)]⟩)))))
  · exact .inr (.inr (.inr (.inr (.inr (.inr (.inl ⟨rfl, g 3 (by decide) (by decide) (by decide)⟩))))))
  · by_cases hv : 2147483647 < v
    · exact .inr (.inl ⟨rfl, hv, by unfold wrongN; rw [if_neg (by omega), if_neg (by omega), if_pos ⟨rfl, hv⟩]⟩)
    · exact .inr (.inr (.inr (.inr (.inr (.inr (.inr (.inl ⟨rfl, by omega, by unfold wrongN; rw [if_neg (by omega), if_neg (by omega), if_neg (by omega)]⟩)))))))
  · by_cases hv : v < 16384
    · exact .inr (.inr (.inl ⟨rfl, hv, by unfold wrongN; rw [if_neg (by omega), if_pos ⟨rfl, .inl hv⟩]⟩))
    · by_cases hv2 : 16777215 < v
      · exact .inr (.inr (.inr (.inl ⟨rfl, hv2, by unfold wrongN; rw [if_neg (by omega), if_pos ⟨rfl, .inr hv2⟩]⟩)))
      · exact .inr (.inr (.inr (.inr (.inr (.inr (.inr (.inr (.inl ⟨rfl, by omega, by omega, by unfold wrongN; rw [if_neg (by omega), if_neg (by omega), if_neg (by omega)]⟩))))))))
  · exact .inr (.inr (.inr (.inr (.inr (.inr (.inr (.inr (.inr (.inl ⟨rfl, g 6 (by decide) (by decide) (by decide)⟩)))))))))
  · exact .inr (.inr (.inr (.inr (.inr (.inr (.inr (.inr (.inr (.inr (.inl ⟨h, g id (by omega) (by omega) (by omega)⟩))))))))))
  · exact .inr (.inr (.inr (.inr (.inr (.inr (.inr (.inr (.inr (.inr (.inr ⟨h, g id (by omega) (by omega) (by omega)⟩))))))))))

set_option maxHeartbeats 1000000 in
theorem applyR_any (S : S6) (a : Option Addr) (cap : Nat) (xs : List St) (w : World) (hl : xs.length ≤ 1152921504606846976) (hf : IsT w a xs) :
    Calls Try.prog 10 #[.agg #[.int .u64 0, .int .u64 S.t, .int .u64 S.p, .int .u64 S.s, .int .u64 S.w, .int .u64 S.f, .int .u64 S.l], .slice a xs.length cap] w
      fun e w' => e = .returned (.tuple #[.agg #[.int .u64 0, .int .u64 (applyL S xs).1.t, .int .u64 (applyL S xs).1.p, .int .u64 (applyL S xs).1.s, .int .u64 (applyL S xs).1.w, .int .u64 (applyL S xs).1.f, .int .u64 (applyL S xs).1.l], .int .i64 (applyL S xs).2]) ∧ Below w.heap.size w w' := by
  have HF := Lib.hid hf
  clear hf
  generalize hR : applyL S xs = R
  have HR := Lib.hid hR
  clear hR
  go_enter Try.func10, Try.ntmps10
  go_wp2
  generalize hW : (w.alloc (.cells #[.int .u64 0, .int .u64 S.t, .int .u64 S.p, .int .u64 S.s, .int .u64 S.w, .int .u64 S.f, .int .u64 S.l] 29)).alloc (.cells #[.int .u64 0, .int .u64 0, .int .u64 0, .int .u64 0, .int .u64 0, .int .u64 0, .int .u64 0] 29) = W
  have hA : IsBlk W w.heap.size S.cells7 29 := by rw [← hW]; exact (IsBlk.new w S.cells7 29).alloc _
  have hB : IsBlk W (w.heap.size + 1) S6.zero.cells7 29 := by
    rw [← hW]
    have := IsBlk.new (w.alloc (.cells #[.int .u64 0, .int .u64 S.t, .int .u64 S.p, .int .u64 S.s, .int .u64 S.w, .int .u64 S.f, .int .u64 S.l] 29)) S6.zero.cells7 29
    rw [World.size_alloc] at this
    exact this
  have hbW : Below w.heap.size w W := by rw [← hW]; exact ((Below.refl _ _).alloc (Nat.le_refl _) _).alloc (by simp) _
  have HA := Lib.hid hA
  have HB := Lib.hid hB
  have HBW := Lib.hid hbW
  clear hW hA hB hbW
  go_loopw [6] (fun i wr => ∃ (k : Nat) (T : S6), k ≤ xs.length ∧ i = .int .i64 k ∧ IsBlk wr w.heap.size T.cells7 29 ∧ IsBlk wr (w.heap.size + 1) S6.zero.cells7 29 ∧ Below w.heap.size w wr ∧ applyL T (xs.drop k) = R) (fun i _ => xs.length - (intOf i).toNat)
  case atStart => exact ⟨0, S, by omega, rfl, HA.out, HB.out, HBW.out, HR.out⟩
  case round =>
    obtain ⟨k, T, hk, rfl, hA, hB, hbel, hap⟩ := hrel
    have GA := Lib.hid hA
    have GB := Lib.hid hB
    have HBE := Lib.hid hbel
    have HAP := Lib.hid hap
    clear hA hB hbel hap
    by_cases hlt : k < xs.length
    · obtain ⟨b, off, rfl, hbl, hc⟩ : ∃ b off, a = some ⟨b, off, none⟩ ∧ b < w.heap.size ∧ ∀ i, i < xs.length → w.cell? ⟨b, off + i * 2, none⟩ = some (.int .u64 (xs.getD i default).1) ∧ w.cell? ⟨b, off + i * 2 + 1, none⟩ = some (.int .u64 (xs.getD i default).2) := by
        rcases HF.out with h | h
        · rw [h] at hlt; simp at hlt
        · exact h
      obtain ⟨hc1, hc2⟩ := hc k hlt
      obtain ⟨x, hx⟩ : ∃ x, xs.getD k default = x := ⟨_, rfl⟩
      rw [hx] at hc1 hc2
      rw [← (bcell HBE.out).1 _ _ hbl] at hc1 hc2
      have hst := apply_step T xs k x hlt hx
      obtain ⟨id, v⟩ := x
      have hw : wrongN id v ≠ 0 ∨ wrongN id v = 0 := by omega
      clear hx hc hw
      rcases wrongN_cases id v with ⟨rfl, h1, hz⟩ | ⟨rfl, h1, hz⟩ | ⟨rfl, h1, hz⟩ | ⟨rfl, h1, hz⟩ | ⟨rfl, hz⟩ | ⟨rfl, h1, hz⟩ | ⟨rfl, hz⟩ | ⟨rfl, h1, hz⟩ | ⟨rfl, h1, h2, hz⟩ | ⟨rfl, hz⟩ | ⟨h1, hz⟩ | ⟨h1, hz⟩
      · rw [hz, if_neg (by decide)] at hst
        have HR2 := Lib.hid (HAP.out.symm.trans hst)
        have fz := fun j => GB.out.frozen j
        obtain ⟨z0, z1, z2, z3, z4, z5, z6⟩ := seven GB.out
        clear hst hz
        go_wp2_with fail
        refine bodyPost_ret (v := .tuple #[.agg #[.int .u64 0, .int .u64 0, .int .u64 0, .int .u64 0, .int .u64 0, .int .u64 0, .int .u64 0], .int .i64 34]) ?_ rfl ⟨by rw [HR2.out]; rfl, ?_⟩
        · have G6 := ((((((GB.out.set 0 (.int .u64 0)).set 1 (.int .u64 0)).set 2 (.int .u64 0)).set 3 (.int .u64 0)).set 4 (.int .u64 0)).set 5 (.int .u64 0)).set 6 (.int .u64 0)
          obtain ⟨y0, y1, y2, y3, y4, y5, y6⟩ := seven G6
          simp [results, Try.results10, go_sem, y0, y1, y2, y3, y4, y5, y6]
        · exact ((((((HBE.out.setCell (by simp) _).setCell (by simp) _).setCell (by simp) _).setCell (by simp) _).setCell (by simp) _).setCell (by simp) _).setCell (by simp) _
      · rw [hz, if_neg (by decide)] at hst
        have HR2 := Lib.hid (HAP.out.symm.trans hst)
        have fz := fun j => GB.out.frozen j
        obtain ⟨z0, z1, z2, z3, z4, z5, z6⟩ := seven GB.out
        clear hst hz
        go_wp2_with fail
        refine bodyPost_ret (v := .tuple #[.agg #[.int .u64 0, .int .u64 0, .int .u64 0, .int .u64 0, .int .u64 0, .int .u64 0, .int .u64 0], .int .i64 31]) ?_ rfl ⟨by rw [HR2.out]; rfl, ?_⟩
        · have G6 := ((((((GB.out.set 0 (.int .u64 0)).set 1 (.int .u64 0)).set 2 (.int .u64 0)).set 3 (.int .u64 0)).set 4 (.int .u64 0)).set 5 (.int .u64 0)).set 6 (.int .u64 0)
          obtain ⟨y0, y1, y2, y3, y4, y5, y6⟩ := seven G6
          simp [results, Try.results10, go_sem, y0, y1, y2, y3, y4, y5, y6]
        · exact ((((((HBE.out.setCell (by simp) _).setCell (by simp) _).setCell (by simp) _).setCell (by simp) _).setCell (by simp) _).setCell (by simp) _).setCell (by simp) _
      · rw [hz, if_neg (by decide)] at hst
        have HR2 := Lib.hid (HAP.out.symm.trans hst)
        have fz := fun j => GB.out.frozen j
        obtain ⟨z0, z1, z2, z3, z4, z5, z6⟩ := seven GB.out
        clear hst hz
        go_wp2_with fail
        refine bodyPost_ret (v := .tuple #[.agg #[.int .u64 0, .int .u64 0, .int .u64 0, .int .u64 0, .int .u64 0, .int .u64 0, .int .u64 0], .int .i64 34]) ?_ rfl ⟨by rw [HR2.out]; rfl, ?_⟩
        · have G6 := ((((((GB.out.set 0 (.int .u64 0)).set 1 (.int .u64 0)).set 2 (.int .u64 0)).set 3 (.int .u64 0)).set 4 (.int .u64 0)).set 5 (.int .u64 0)).set 6 (.int .u64 0)
          obtain ⟨y0, y1, y2, y3, y4, y5, y6⟩ := seven G6
          simp [results, Try.results10, go_sem, y0, y1, y2, y3, y4, y5, y6]
        · exact ((((((HBE.out.setCell (by simp) _).setCell (by simp) _).setCell (by simp) _).setCell (by simp) _).setCell (by simp) _).setCell (by simp) _).setCell (by simp) _
      · rw [hz, if_neg (by decide)] at hst
        have HR2 := Lib.hid (HAP.out.symm.trans hst)
        have fz := fun j => GB.out.frozen j
        obtain ⟨z0, z1, z2, z3, z4, z5, z6⟩ := seven GB.out
        clear hst hz
        go_wp2_with fail
        refine bodyPost_ret (v := .tuple #[.agg #[.int .u64 0, .int .u64 0, .int .u64 0, .int .u64 0, .int .u64 0, .int .u64 0, .int .u64 0], .int .i64 34]) ?_ rfl ⟨by rw [HR2.out]; rfl, ?_⟩
        · have G6 := ((((((GB.out.set 0 (.int .u64 0)).set 1 (.int .u64 0)).set 2 (.int .u64 0)).set 3 (.int .u64 0)).set 4 (.int .u64 0)).set 5 (.int .u64 0)).set 6 (.int .u64 0)
          obtain ⟨y0, y1, y2, y3, y4, y5, y6⟩ := seven G6
          simp [results, Try.results10, go_sem, y0, y1, y2, y3, y4, y5, y6]
        · exact ((((((HBE.out.setCell (by simp) _).setCell (by simp) _).setCell (by simp) _).setCell (by simp) _).setCell (by simp) _).setCell (by simp) _).setCell (by simp) _
      · rw [if_pos hz] at hst
        have HR2 := Lib.hid (hst.symm.trans HAP.out)
        have fz := GA.out.frozen 1
        have z0 : ∃ u, wr.cell? ⟨w.heap.size, 1, none⟩ = some u := ⟨_, GA.out.cell 1⟩
        obtain ⟨u, z0⟩ := z0
        clear hst hz
        go_wp2_with fail
        go_roundw
        case rel => exact ⟨k + 1, T.set 1 v, by omega, by go_num, GA.out.set 1 (.int .u64 v), GB.out.set_other (by omega) _, HBE.out.setCell (by simp) _, HR2.out⟩
        case measure => simp [intOf]; omega
      · rw [if_pos hz] at hst
        have HR2 := Lib.hid (hst.symm.trans HAP.out)
        have fz := GA.out.frozen 2
        have z0 : ∃ u, wr.cell? ⟨w.heap.size, 2, none⟩ = some u := ⟨_, GA.out.cell 2⟩
        obtain ⟨u, z0⟩ := z0
        clear hst hz
        go_wp2_with fail
        go_roundw
        case rel => exact ⟨k + 1, T.set 2 v, by omega, by go_num, GA.out.set 2 (.int .u64 v), GB.out.set_other (by omega) _, HBE.out.setCell (by simp) _, HR2.out⟩
        case measure => simp [intOf]; omega
      · rw [if_pos hz] at hst
        have HR2 := Lib.hid (hst.symm.trans HAP.out)
        have fz := GA.out.frozen 3
        have z0 : ∃ u, wr.cell? ⟨w.heap.size, 3, none⟩ = some u := ⟨_, GA.out.cell 3⟩
        obtain ⟨u, z0⟩ := z0
        clear hst hz
        go_wp2_with fail
        go_roundw
        case rel => exact ⟨k + 1, T.set 3 v, by omega, by go_num, GA.out.set 3 (.int .u64 v), GB.out.set_other (by omega) _, HBE.out.setCell (by simp) _, HR2.out⟩
        case measure => simp [intOf]; omega
      · rw [if_pos hz] at hst
        have HR2 := Lib.hid (hst.symm.trans HAP.out)
        have fz := GA.out.frozen 4
        have z0 : ∃ u, wr.cell? ⟨w.heap.size, 4, none⟩ = some u := ⟨_, GA.out.cell 4⟩
        obtain ⟨u, z0⟩ := z0
        clear hst hz
        go_wp2_with fail
        go_roundw
        case rel => exact ⟨k + 1, T.set 4 v, by omega, by go_num, GA.out.set 4 (.int .u64 v), GB.out.set_other (by omega) _, HBE.out.setCell (by simp) _, HR2.out⟩
        case measure => simp [intOf]; omega
      · rw [if_pos hz] at hst
        have HR2 := Lib.hid (hst.symm.trans HAP.out)
        have fz := GA.out.frozen 5
        have z0 : ∃ u, wr.cell? ⟨w.heap.size, 5, none⟩ = some u := ⟨_, GA.out.cell 5⟩
        obtain ⟨u, z0⟩ := z0
        clear hst hz
        go_wp2_with fail
        go_roundw
        case rel => exact ⟨k + 1, T.set 5 v, by omega, by go_num, GA.out.set 5 (.int .u64 v), GB.out.set_other (by omega) _, HBE.out.setCell (by simp) _, HR2.out⟩
        case measure => simp [intOf]; omega
      · rw [if_pos hz] at hst
        have HR2 := Lib.hid (hst.symm.trans HAP.out)
        have fz := GA.out.frozen 6
        have z0 : ∃ u, wr.cell? ⟨w.heap.size, 6, none⟩ = some u := ⟨_, GA.out.cell 6⟩
        obtain ⟨u, z0⟩ := z0
        clear hst hz
        go_wp2_with fail
        go_roundw
        case rel => exact ⟨k + 1, T.set 6 v, by omega, by go_num, GA.out.set 6 (.int .u64 v), GB.out.set_other (by omega) _, HBE.out.setCell (by simp) _, HR2.out⟩
        case measure => simp [intOf]; omega
      · rw [if_pos hz, set_none T id v (by omega)] at hst
        have HR2 := Lib.hid (hst.symm.trans HAP.out)
        have e2 : (id == 2) = false := by simp; omega
        have e4 : (id == 4) = false := by simp; omega
        have e5 : (id == 5) = false := by simp; omega
        have e6 : decide (1 ≤ id) = false := by simp; omega
        have e7 : decide (id ≤ 6) = true := by simp; omega
        clear hst hz
        go_wp2_with fail
        go_roundw
        case rel => exact ⟨k + 1, T, by omega, by go_num, GA.out, GB.out, HBE.out, HR2.out⟩
        case measure => simp [intOf]; omega
      · rw [if_pos hz, set_none T id v (by omega)] at hst
        have HR2 := Lib.hid (hst.symm.trans HAP.out)
        have e2 : (id == 2) = false := by simp; omega
        have e4 : (id == 4) = false := by simp; omega
        have e5 : (id == 5) = false := by simp; omega
        have e6 : decide (1 ≤ id) = true := by simp; omega
        have e7 : decide (id ≤ 6) = false := by simp; omega
        clear hst hz
        go_wp2_with fail
        go_roundw
        case rel => exact ⟨k + 1, T, by omega, by go_num, GA.out, GB.out, HBE.out, HR2.out⟩
        case measure => simp [intOf]; omega
    · obtain rfl : xs.length = k := by omega
      have hr := HAP.out
      rw [List.drop_length] at hr
      subst hr
      have fz := fun j => GB.out.frozen j
      obtain ⟨z0, z1, z2, z3, z4, z5, z6⟩ := seven GB.out
      obtain ⟨y0, y1, y2, y3, y4, y5, y6⟩ := seven GA.out
      go_wp2_with fail
      refine bodyPost_ret (v := .tuple #[.agg #[.int .u64 0, .int .u64 T.t, .int .u64 T.p, .int .u64 T.s, .int .u64 T.w, .int .u64 T.f, .int .u64 T.l], .int .i64 0]) ?_ rfl ⟨rfl, ?_⟩
      · have G6 := ((((((GB.out.set 0 (.int .u64 0)).set 1 (.int .u64 T.t)).set 2 (.int .u64 T.p)).set 3 (.int .u64 T.s)).set 4 (.int .u64 T.w)).set 5 (.int .u64 T.f)).set 6 (.int .u64 T.l)
        obtain ⟨x0, x1, x2, x3, x4, x5, x6⟩ := seven G6
        simp [results, Try.results10, go_sem, x0, x1, x2, x3, x4, x5, x6]
      · exact ((((((HBE.out.setCell (by simp) _).setCell (by simp) _).setCell (by simp) _).setCell (by simp) _).setCell (by simp) _).setCell (by simp) _).setCell (by simp) _
end Go.Proofs.Ytokbekiihdabhaa
