/- The walk of LedgerTimes. Conditions: none. -/
import Derived.Test.YthnokfchebmjiaaTk
import Derived.Test.YthnokfchebmjiaaOw
namespace Go.Proofs.Ythnokfchebmjiaa
open Go.RowKit

set_option maxRecDepth 100000 in
theorem times_many (a a2 : Option Addr) (n m c c2 : Nat) (w : World) (hn : 30 < n ∨ m < n) : Calls Try.prog 3 #[.slice a n c, .slice a2 m c2] w fun e w' => e = .returned (.bool true) ∧ Touch [] w w' := by
  by_cases h30 : 30 < n
  · have hn1 : (30 : Int) < (n : Int) := by omega
    go_enter Try.func3, Try.ntmps3
    go_wp2_with fail
    refine (known_any w).mono ?_
    rintro e w0 ⟨rfl, hT0⟩
    have HT0 := Lib.hid hT0
    clear hT0
    go_wp2_with fail
    go_ret
    exact ⟨rfl, HT0.out⟩
  · have hn1 : ¬ (30 : Int) < (n : Int) := by omega
    have hn2 : (m : Int) < (n : Int) := by omega
    go_enter Try.func3, Try.ntmps3
    go_wp2_with fail
    refine (known_any w).mono ?_
    rintro e w0 ⟨rfl, hT0⟩
    have HT0 := Lib.hid hT0
    clear hT0
    go_wp2_with fail
    go_ret
    exact ⟨rfl, HT0.out⟩

set_option maxHeartbeats 8000000 in
set_option maxRecDepth 100000 in
theorem times_walk (a a2 : Option Addr) (n m c c2 : Nat) (xs ds : List Nat) (w : World) (hx : Rd w 1 (.slice a n c) n (bs xs)) (hxn : xs.length = n) (hxb : ∀ x ∈ xs, x < 256) (hd : Rd w 1 (.slice a2 m c2) m (bs ds)) (hdn : ds.length = m) (hdb : ∀ x ∈ ds, x < 256) (h30 : n ≤ 30) (hnm : n ≤ m) :
    Calls Try.prog 3 #[.slice a n c, .slice a2 m c2] w fun e w' => e = .returned (.bool true) ∧ Touch [] w w' := by
  have HX := Lib.hid hx
  have HXN := Lib.hid hxn
  have HXB := Lib.hid hxb
  have HD := Lib.hid hd
  have HDN := Lib.hid hdn
  have HDB := Lib.hid hdb
  clear hx hxn hxb hd hdn hdb
  have hn1 : ¬ (30 : Int) < (n : Int) := by omega
  have hn2 : ¬ (m : Int) < (n : Int) := by omega
  go_enter Try.func3, Try.ntmps3
  go_wp2_with fail
  refine (known_any w).mono ?_
  rintro e w0 ⟨rfl, hT0⟩
  have HT0 := Lib.hid hT0
  clear hT0
  go_wp2_with fail
  refine (ll_new [] (Sep.nil HT0.out)).mono ?_
  rintro e w1 ⟨p, rfl, h⟩
  have A1 := Lib.hid h
  clear h
  go_wp2_with fail
  refine (l2_newR A1.out).mono ?_
  rintro e w2 ⟨q, rfl, h⟩
  have A2 := Lib.hid h
  clear h
  go_wp2_with fail
  go_loopw [7, 8, 9] (fun s7 s8 s9 wr => ∃ (k now lst : Nat) (σ : Ldg) (ρ : RL), k ≤ n ∧ s7 = .int .u64 (now : Int) ∧ s8 = .int .u64 (lst : Int) ∧ s9 = .int .i64 (k : Int) ∧ now ≤ 255 * k ∧ lst ≤ 1099511627776 ∧ Hid (L2 w wr p σ q ρ []) ∧ Hid (TInv k lst σ ρ)) (fun _ _ s9 _ => n - (intOf s9).toNat)
  case atStart => exact ⟨0, 0, 1099511627776, led0, rho0, by omega, rfl, rfl, rfl, by omega, by omega, A2, Lib.hid TInv.zero⟩
  case round =>
    obtain ⟨k, now, lst, σ, ρ, hk, rfl, rfl, rfl, hnow, hlst, HA, HI⟩ := hrel
    by_cases hlt : k < n
    · have hlt' : (k : Int) < (n : Int) := by omega
      have hlm' : (k : Int) < (m : Int) := by omega
      obtain ⟨x, hxk⟩ : ∃ x, xs[k]? = some x := ⟨_, List.getElem?_eq_getElem (by have := HXN.out; omega)⟩
      obtain ⟨d, hdk⟩ : ∃ d, ds[k]? = some d := ⟨_, List.getElem?_eq_getElem (by have := HDN.out; omega)⟩
      have hx256 := HXB.out x (List.mem_of_getElem? hxk)
      have hd256 := HDB.out d (List.mem_of_getElem? hdk)
      have HXK := Lib.hid hxk
      have HDK := Lib.hid hdk
      clear hxk hdk
      go_upto_region 12 with (fail)
      obtain ⟨ab, hab⟩ : ∃ ab, ab = wr.heap.size := ⟨_, rfl⟩
      obtain ⟨W, hW⟩ : ∃ W, W = wr.alloc (.cells #[.int .u64 (k : Int), .int .u64 (now : Int), .int .i64 1, .bool true] 30) := ⟨_, rfl⟩
      rw [← hW, ← hab]
      have HX1 : Hid (L2 w W p σ q ρ [tB ab (pcells (pkT k now)) 30]) := Lib.hid (by
        rw [hW, hab]
        exact HA.out.more ((Touch.refl _ _).alloc _) (tB wr.heap.size (pcells (pkT k now)) 30) (IsBlk.new wr (pcells (pkT k now)) 30) (fun g hg => by simp [tB] at hg; omega))
      clear hW hab
      have eb := IsBlk.cell (HX1.out.get (List.mem_cons_self ..))
      have e0 := eb 0
      have e1 := eb 1
      have e2 := eb 2
      have e3 := eb 3
      have el := IsBlk.lt (HX1.out.get (List.mem_cons_self ..))
      simp only [pcells, pkT, List.getElem?_cons_zero, List.getElem?_cons_succ] at e0 e1 e2 e3
      clear eb
      go_wp2_with fail
      refine (show Calls Try.prog 10 #[.pointer (some ⟨p, 0, none⟩), .agg #[.int .u64 (k : Int), .int .u64 (now : Int), .int .i64 1, .bool true]] W _ from l2_send HX1.out (pkT k now) ⟨by show k < _; omega, by show now < _; omega, by show 1 < _; decide⟩ (by show now ≤ _; omega) (by show 1 ≤ _; decide) (by rw [HI.out.tot]; omega)).mono ?_
      rw [HI.out.fine (by omega) now]
      rintro e w3 ⟨rfl, h⟩
      have A3 : Hid (L2 w w3 p (sentS σ (pkT k now)) q ρ [tB ab (pcells (pkT k now)) 30]) := Lib.hid h
      clear h e0 e1 e2 e3 el
      have eb := IsBlk.cell (A3.out.get (List.mem_cons_self ..))
      have e0 := eb 0
      have e1 := eb 1
      have e2 := eb 2
      have e3 := eb 3
      have el := IsBlk.lt (A3.out.get (List.mem_cons_self ..))
      simp only [pcells, pkT, List.getElem?_cons_zero, List.getElem?_cons_succ] at e0 e1 e2 e3
      clear eb
      go_wp2_with fail
      refine (show Calls Try.prog 11 #[.pointer (some ⟨q, 0, none⟩), .agg #[.int .u64 (k : Int), .int .u64 (now : Int), .int .i64 1, .bool true]] w3 _ from l2_sendR A3.out (pkT k now) (by show k ≤ _; omega) (by show now ≤ _; omega) (by show 1 ≤ _; decide) (by rw [HI.out.rl]; omega) HI.out.rs).mono ?_
      rintro e w4 ⟨rfl, h⟩
      have A4 := Lib.hid h.drop
      clear h e0 e1 e2 e3 el
      obtain ⟨now2, hn2⟩ : ∃ now2, now2 = now + x := ⟨_, rfl⟩
      obtain ⟨lst2, hl2⟩ : ∃ lst2, lst2 = min lst x := ⟨_, rfl⟩
      have hnow2 : now2 ≤ 255 * (k + 1) := by omega
      have hlst2 : lst2 ≤ 1099511627776 := by omega
      have i1 : (now : Int) + (x : Int) = (now2 : Int) := by omega
      have i2 : min (lst : Int) (x : Int) = (lst2 : Int) := by omega
      have HG0 := Lib.hid (HI.out.good (by omega) HX1.out.ok now)
      have HG1 : Hid (pns (goneA (sentS σ (pkT k now)) [(k, k)]) = [k]) := Lib.hid (by rw [HI.out.gone now]; rfl)
      have HG2 : Hid (pns (lostL (ackS (sentS σ (pkT k now)) [(k, k)] now2 d) now2) = []) := Lib.hid (by rw [hn2, HI.out.none now x d]; rfl)
      have HG3 : Hid (TInv (k + 1) lst2 (lostS (ackS (sentS σ (pkT k now)) [(k, k)] now2 d) now2) (sampR (shutR (sendR ρ (pkT k now)) (pkT k now)) (now2 - now) d)) := Lib.hid (by rw [hn2, hl2]; exact HI.out.next (by omega) HX1.out.ok now x d (by omega))
      clear hn2 hl2
      obtain ⟨pg, po, rfl, pc, pl⟩ := rd_byte (HX.out.touch A4.out.touch (by simp)) HXN.out k x HXK.out
      go_upto_region 16 with (fail)
      obtain ⟨rb, hrb⟩ : ∃ rb, rb = w4.heap.size := ⟨_, rfl⟩
      obtain ⟨W5, hW5⟩ : ∃ W5, W5 = w4.alloc (.cells #[.int .u64 (k : Int), .int .u64 (k : Int)] 35) := ⟨_, rfl⟩
      have A5 : Hid (L2 w W5 p (sentS σ (pkT k now)) q (sendR ρ (pkT k now)) [tRd (.slice (some ⟨rb, 0, none⟩) 1 1) [(k, k)]]) := Lib.hid (by
        rw [hW5, hrb]
        exact A4.out.more ((Touch.refl _ _).alloc _) (tRd (.slice (some ⟨w4.heap.size, 0, none⟩) 1 1) [(k, k)]) ⟨Rd.new w4 (k, k), fun g hg => by simp [own] at hg; simp; omega⟩ (fun g hg => by simp [tRd, own] at hg; omega))
      rw [← hW5, ← hrb]
      clear hW5 hrb pc pl
      obtain ⟨qg, qo, rfl, qc, ql⟩ := rd_byte (HD.out.touch A5.out.touch (by simp)) HDN.out k d HDK.out
      go_wp2_with fail
      refine (l2_ack A5.out now2 d (by simp) HG0.out (by omega) (by omega)).mono ?_
      rw [HG1.out, HG2.out]
      rintro e w6 ⟨v1, v2, rfl, h⟩
      have r1 : Sl w6 28 1 v1 1 (us [k]) := h.get (List.mem_cons_self ..)
      have r2 : Sl w6 28 1 v2 0 (us []) := h.get (List.mem_cons_of_mem _ (List.mem_cons_self ..))
      obtain ⟨a1, c1, rfl, _⟩ := r1.form
      obtain ⟨a4, c4, rfl, _⟩ := r2.form
      have A6 := Lib.hid h
      clear h r1 r2 qc ql
      obtain ⟨_, _, qe, qc, ql⟩ := rd_byte (HD.out.touch A6.out.touch (by simp)) HDN.out k d HDK.out
      simp only [Option.some.injEq, Addr.mk.injEq, and_true] at qe
      obtain ⟨rfl, rfl⟩ := qe
      go_wp2_with fail
      refine (l2_ackR A6.out (pkT k now) ρ.sent (List.mem_cons_of_mem _ (List.mem_cons_of_mem _ (List.mem_cons_self ..))) now2 d rfl (HI.out.opnR HX1.out.okR now) HI.out.rs (by show ρ.top < (k : Int); rw [HI.out.tp]; omega) rfl (by omega) (by omega)).mono ?_
      rintro e w7 ⟨v3, rfl, h⟩
      have r3 : Sl w7 28 1 v3 1 (us [k]) := h.get (List.mem_cons_self ..)
      obtain ⟨a3, c3, rfl, _⟩ := r3.form
      have A7 : Hid (L2 w w7 p (lostS (ackS (sentS σ (pkT k now)) [(k, k)] now2 d) now2) q (sampR (shutR (sendR ρ (pkT k now)) (pkT k now)) (now2 - now) d) (tS (.slice a3 1 c3) [k] :: tS (.slice a1 1 c1) [k] :: tS (.slice a4 0 c4) [] :: tRd (.slice (some ⟨rb, 0, none⟩) 1 1) [(k, k)] :: [])) := Lib.hid h
      clear h r3 qc ql
      generalize lostS (ackS (sentS σ (pkT k now)) [(k, k)] now2 d) now2 = σ2 at A7 HG3
      generalize sampR (shutR (sendR ρ (pkT k now)) (pkT k now)) (now2 - now) d = ρ2 at A7 HG3
      have N1 := Lib.hid (Sl.rd (show Sl w7 28 1 (.slice a1 1 c1) 1 (us [k]) from A7.out.get (List.mem_cons_of_mem _ (List.mem_cons_self ..))))
      have N3 := Lib.hid (Sl.rd (show Sl w7 28 1 (.slice a3 1 c3) 1 (us [k]) from A7.out.get (List.mem_cons_self ..)))
      go_wp2_with fail
      refine (nums_any _ a1 a3 1 1 c1 c3 [k] [k] N1.out N3.out rfl rfl (by decide)).mono ?_
      rw [show decide ([k] = [k]) = true from decide_eq_true rfl]
      rintro e w8 ⟨rfl, h⟩
      have A8 := Lib.hid (A7.out.keep h)
      clear h
      go_wp2_with fail
      refine (nums_any _ a4 none 0 0 c4 0 [] [] ⟨rfl, .inl ⟨_, _, rfl, rfl⟩⟩ ⟨rfl, .inl ⟨_, _, rfl, rfl⟩⟩ rfl rfl (by decide)).mono ?_
      rw [show decide (([] : List Nat) = []) = true from rfl]
      rintro e w9 ⟨rfl, h⟩
      have A9 := Lib.hid (A8.out.keep h)
      clear h
      have HEQ := Lib.hid (HG3.out.eq (by omega))
      go_wp2_with fail
      refine (l2_alike A9.out HG3.out.op HG3.out.sh (by rw [HG3.out.sm]; simp) HEQ.out.1 HEQ.out.2.1 HEQ.out.2.2 (by rw [HG3.out.lg, HG3.out.tp])).mono ?_
      rintro e w10 ⟨rfl, h⟩
      have A10 := Lib.hid h
      clear h
      obtain ⟨_, _, pe, pc, pl⟩ := rd_byte (HX.out.touch A10.out.touch (by simp)) HXN.out k x HXK.out
      simp only [Option.some.injEq, Addr.mk.injEq, and_true] at pe
      obtain ⟨rfl, rfl⟩ := pe
      go_wp2_with fail
      refine (l2_rtt A10.out).mono ?_
      rw [HG3.out.le (by omega)]
      rintro e w11 ⟨rfl, h⟩
      have A11 : Hid (L2 w w11 p σ2 q ρ2 []) := Lib.hid h.drop.drop.drop.drop
      clear h pc pl
      have hlo := HG3.out.lo (by omega)
      have hs8 : ¬ (σ2.smooth : Int) + 8 < (lst2 : Int) := by omega
      obtain ⟨t1, _⟩ := A11.out.ok.times
      by_cases hs : (σ2.smooth : Int) < (lst2 : Int)
      · go_wp2_with fail
        go_roundw
        case rel => exact ⟨k + 1, now2, lst2, σ2, ρ2, by omega, rfl, rfl, by go_num, hnow2, hlst2, A11, HG3⟩
        case measure => simp [intOf]; omega
      · go_wp2_with fail
        go_roundw
        case rel => exact ⟨k + 1, now2, lst2, σ2, ρ2, by omega, rfl, rfl, by go_num, hnow2, hlst2, A11, HG3⟩
        case measure => simp [intOf]; omega
    · obtain rfl : k = n := by omega
      go_wp2_with fail
      refine (l2_flight HA.out).mono ?_
      rw [HI.out.op]
      rintro e w3 ⟨rfl, h⟩
      have A3 := Lib.hid h
      clear h
      go_wp2_with fail
      go_ret
      exact ⟨rfl, A3.out.touch⟩
end Go.Proofs.Ythnokfchebmjiaa
