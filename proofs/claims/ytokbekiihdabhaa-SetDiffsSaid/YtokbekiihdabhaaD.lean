/- The walk of the program's 'Apply'. Conditions: the list's cells are where the slice says. -/
import Derived.Test.YtokbekiihdabhaaC
namespace Go.Proofs.Ytokbekiihdabhaa
open Go.RowKit

theorem apply_step (S : S6) (xs : List St) (k : Nat) (x : St) (hk : k < xs.length) (hx : xs.getD k default = x) : applyL S (xs.drop k) = if wrongN x.1 x.2 = 0 then applyL (S.set x.1 x.2) (xs.drop (k + 1)) else (S6.zero, wrongN x.1 x.2) := by
  rw [drop_at xs k hk, hx]; rfl
theorem set_none (S : S6) (id v : Int) (h : id < 1 ∨ 6 < id) : S.set id v = S := by
  unfold S6.set
  rw [if_neg (by omega), if_neg (by omega), if_neg (by omega), if_neg (by omega), if_neg (by omega), if_neg (by omega)]
theorem set_some (S : S6) (j : Nat) (v : Int) (h : j < 6) : (S.set ((j : Int) + 1) v).cells = S.cells.set j (.int .u64 v) := by
  match j, h with
  | 0, _ | 1, _ | 2, _ | 3, _ | 4, _ | 5, _ => rfl

theorem six {w : World} {n : Nat} {t : TypeId} {v0 v1 v2 v3 v4 v5 : Value} (h : IsBlk w n [v0, v1, v2, v3, v4, v5] t) :
    w.cell? ⟨n, 0, none⟩ = some v0 ∧ w.cell? ⟨n, 1, none⟩ = some v1 ∧ w.cell? ⟨n, 2, none⟩ = some v2 ∧ w.cell? ⟨n, 3, none⟩ = some v3 ∧ w.cell? ⟨n, 4, none⟩ = some v4 ∧ w.cell? ⟨n, 5, none⟩ = some v5 :=
  ⟨h.cell 0, h.cell 1, h.cell 2, h.cell 3, h.cell 4, h.cell 5⟩

theorem apply_any (S : S6) (a : Option Addr) (cap : Nat) (xs : List St) (w : World) (hl : xs.length ≤ 1152921504606846976) (hf : IsT w a xs) :
    Calls Try.prog 9 #[.agg #[.int .u64 S.t, .int .u64 S.p, .int .u64 S.s, .int .u64 S.w, .int .u64 S.f, .int .u64 S.l], .slice a xs.length cap] w
      fun e w' => e = .returned (.tuple #[.agg #[.int .u64 (applyL S xs).1.t, .int .u64 (applyL S xs).1.p, .int .u64 (applyL S xs).1.s, .int .u64 (applyL S xs).1.w, .int .u64 (applyL S xs).1.f, .int .u64 (applyL S xs).1.l], .int .i64 (applyL S xs).2]) ∧ Below w.heap.size w w' := by
  have HF := Lib.hid hf
  clear hf
  generalize hR : applyL S xs = R
  have HR := Lib.hid hR
  clear hR
  go_enter Try.func9, Try.ntmps9
  go_wp2
  generalize hW : (w.alloc (.cells #[.int .u64 S.t, .int .u64 S.p, .int .u64 S.s, .int .u64 S.w, .int .u64 S.f, .int .u64 S.l] 24)).alloc (.cells #[.int .u64 0, .int .u64 0, .int .u64 0, .int .u64 0, .int .u64 0, .int .u64 0] 24) = W
  have hA : IsBlk W w.heap.size S.cells 24 := by rw [← hW]; exact (IsBlk.new w S.cells 24).alloc _
  have hB : IsBlk W (w.heap.size + 1) S6.zero.cells 24 := by
    rw [← hW]
    have := IsBlk.new (w.alloc (.cells #[.int .u64 S.t, .int .u64 S.p, .int .u64 S.s, .int .u64 S.w, .int .u64 S.f, .int .u64 S.l] 24)) S6.zero.cells 24
    rw [World.size_alloc] at this
    exact this
  have hbW : Below w.heap.size w W := by rw [← hW]; exact ((Below.refl _ _).alloc (Nat.le_refl _) _).alloc (by simp) _
  have HA := Lib.hid hA
  have HB := Lib.hid hB
  have HBW := Lib.hid hbW
  clear hW hA hB hbW
  go_loopw [12] (fun i wr => ∃ (k : Nat) (T : S6), k ≤ xs.length ∧ i = .int .i64 k ∧ IsBlk wr w.heap.size T.cells 24 ∧ IsBlk wr (w.heap.size + 1) S6.zero.cells 24 ∧ Below w.heap.size w wr ∧ applyL T (xs.drop k) = R) (fun i _ => xs.length - (intOf i).toNat)
  case atStart => exact ⟨0, S, by omega, rfl, HA.out, HB.out, HBW.out, HR.out⟩
  case round =>
    obtain ⟨k, T, hk, rfl, hA, hB, hbel, hap⟩ := hrel
    have GA := Lib.hid hA
    have GB := Lib.hid hB
    have HBE := Lib.hid hbel
    have HAP := Lib.hid hap
    clear hA hB hbel hap
    by_cases hlt : k < xs.length
    · obtain ⟨b, off, rfl, hbl, hc⟩ : ∃ b off, a = some ⟨b, off, none⟩ ∧ b < w.heap.size ∧ ∀ i, i < xs.length → w.cell? ⟨b, off + i * 2, none⟩ = some (.int .u64 (xs.getD i default).1) ∧ w.cell? ⟨b, off + i * 2 + 1, none⟩ = some (.int .u64 (xs.getD i default).2) := by
        rcases HF.out with h | h
        · rw [h] at hlt; simp at hlt
        · exact h
      obtain ⟨hc1, hc2⟩ := hc k hlt
      obtain ⟨x, hx⟩ : ∃ x, xs.getD k default = x := ⟨_, rfl⟩
      rw [hx] at hc1 hc2
      rw [← (bcell HBE.out).1 _ _ hbl] at hc1 hc2
      have HST := Lib.hid (apply_step T xs k x hlt hx)
      obtain ⟨id, v⟩ := x
      clear hx hc
      have hwr := wrong_any id v (wr.alloc (.cells #[.int .u64 id, .int .u64 v] 32))
      have HWR := Lib.hid hwr
      clear hwr
      go_wp2_with fail
      refine HWR.out.mono ?_
      rintro e w2 ⟨rfl, hb2⟩
      have hN := GB.out.lt
      have m1 : w2.cell? ⟨wr.heap.size, 0, none⟩ = some (.int .u64 id) := by rw [(bcell hb2).1 _ _ (by simp), World.cell?_alloc_new]; rfl
      have m2 : w2.cell? ⟨wr.heap.size, 1, none⟩ = some (.int .u64 v) := by rw [(bcell hb2).1 _ _ (by simp), World.cell?_alloc_new]; rfl
      have GA2 := Lib.hid ((GA.out.alloc (.cells #[.int .u64 id, .int .u64 v] 32)).below hb2 (by simp; omega))
      have GB2 := Lib.hid ((GB.out.alloc (.cells #[.int .u64 id, .int .u64 v] 32)).below hb2 (by simp; omega))
      have HBE2 := Lib.hid ((HBE.out.alloc HBE.out.size (.cells #[.int .u64 id, .int .u64 v] 32)).trans (hb2.mono (by simp; omega)))
      clear hb2 hc1 hc2
      by_cases hz : wrongN id v = 0
      · have hz1 : (wrongN id v != 0) = false := by rw [hz]; rfl
        have hst := HST.out
        rw [if_pos hz] at hst
        have HR2 := Lib.hid (hst.symm.trans HAP.out)
        clear hst hz
        rcases (show (id < 1 ∨ 6 < id) ∨ (1 ≤ id ∧ id ≤ 6) from by omega) with hid | ⟨hid, hid'⟩
        · have HSN := Lib.hid (set_none T id v hid)
          go_wp2_with fail
          refine (place_none _ _ _ hid).mono ?_
          rintro e w' ⟨rfl, rfl⟩
          go_wp2_with fail
          go_roundw
          case rel => exact ⟨k + 1, T, by omega, by go_num, GA2.out, GB2.out, HBE2.out, by have h := HR2.out; rwa [HSN.out] at h⟩
          case measure => simp [intOf]; omega
        · obtain ⟨j, hj, rfl⟩ : ∃ j : Nat, j < 6 ∧ id = (j : Int) + 1 := ⟨(id - 1).toNat, by omega, by omega⟩
          have HSS := Lib.hid (set_some T j v hj)
          have fz := GA2.out.frozen j
          have z0 : ∃ u, w2.cell? ⟨w.heap.size, j, none⟩ = some u := by
            rw [GA2.out.cell]
            exact ⟨_, List.getElem?_eq_getElem (by show j < 6; exact hj)⟩
          obtain ⟨u, z0⟩ := z0
          clear hid hid'
          go_wp2_with fail
          refine (place_some _ _ _ hj).mono ?_
          rintro e w' ⟨rfl, rfl⟩
          go_wp2_with fail
          go_roundw
          case rel => exact ⟨k + 1, T.set ((j : Int) + 1) v, by omega, by go_num, by rw [HSS.out]; exact GA2.out.set j _, GB2.out.set_other (by omega) _, HBE2.out.setCell (by simp) _, HR2.out⟩
          case measure => simp [intOf]; omega
      · have hz1 : (wrongN id v != 0) = true := by rw [bne_iff_ne]; exact hz
        have hst := HST.out
        rw [if_neg hz] at hst
        have HR2 := Lib.hid (HAP.out.symm.trans hst)
        have fz := fun j => GB2.out.frozen j
        obtain ⟨z0, z1, z2, z3, z4, z5⟩ := six GB2.out
        clear hst hz
        go_wp2_with fail
        refine bodyPost_ret (v := .tuple #[.agg #[.int .u64 0, .int .u64 0, .int .u64 0, .int .u64 0, .int .u64 0, .int .u64 0], .int .i64 (wrongN id v)]) ?_ rfl ⟨by rw [HR2.out]; rfl, ?_⟩
        · have G6 := (((((GB2.out.set 0 (.int .u64 0)).set 1 (.int .u64 0)).set 2 (.int .u64 0)).set 3 (.int .u64 0)).set 4 (.int .u64 0)).set 5 (.int .u64 0)
          obtain ⟨y0, y1, y2, y3, y4, y5⟩ := six G6
          simp [results, Try.results9, go_sem, y0, y1, y2, y3, y4, y5]
        · exact (((((HBE2.out.setCell (by simp) _).setCell (by simp) _).setCell (by simp) _).setCell (by simp) _).setCell (by simp) _).setCell (by simp) _
    · obtain rfl : xs.length = k := by omega
      have hr := HAP.out
      rw [List.drop_length] at hr
      subst hr
      have fz := fun j => GB.out.frozen j
      obtain ⟨z0, z1, z2, z3, z4, z5⟩ := six GB.out
      obtain ⟨y0, y1, y2, y3, y4, y5⟩ := six GA.out
      go_wp2_with fail
      refine bodyPost_ret (v := .tuple #[.agg #[.int .u64 T.t, .int .u64 T.p, .int .u64 T.s, .int .u64 T.w, .int .u64 T.f, .int .u64 T.l], .int .i64 0]) ?_ rfl ⟨rfl, ?_⟩
      · have G6 := (((((GB.out.set 0 (.int .u64 T.t)).set 1 (.int .u64 T.p)).set 2 (.int .u64 T.s)).set 3 (.int .u64 T.w)).set 4 (.int .u64 T.f)).set 5 (.int .u64 T.l)
        obtain ⟨x0, x1, x2, x3, x4, x5⟩ := six G6
        simp [results, Try.results9, go_sem, x0, x1, x2, x3, x4, x5]
      · exact (((((HBE.out.setCell (by simp) _).setCell (by simp) _).setCell (by simp) _).setCell (by simp) _).setCell (by simp) _).setCell (by simp) _
end Go.Proofs.Ytokbekiihdabhaa
