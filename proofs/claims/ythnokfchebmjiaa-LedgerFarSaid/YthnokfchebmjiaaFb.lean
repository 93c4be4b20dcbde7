/- The walk of LedgerFar. Conditions: none. -/
import Derived.Test.YthnokfchebmjiaaBy
import Derived.Test.YthnokfchebmjiaaLb
namespace Go.Proofs.Ythnokfchebmjiaa
open Go.RowKit

theorem far_many (a : Option Addr) (n c f t : Nat) (w : World) (hn : n < 1 ∨ 20 < n) :
    Calls Try.prog 4 #[.slice a n c, .int .u8 (f : Int), .int .u8 (t : Int)] w fun e w' => e = .returned (.bool true) ∧ Touch [] w w' := by
  rcases hn with hn | hn
  · have hn1 : (n : Int) < 1 := by omega
    go_enter Try.func4, Try.ntmps4
    go_wp2_with fail
    refine (known_any w).mono ?_
    rintro e w0 ⟨rfl, hT0⟩
    have HT0 := Lib.hid hT0
    clear hT0
    go_wp2_with fail
    go_ret
    exact ⟨rfl, HT0.out⟩
  · have hn1 : ¬ (n : Int) < 1 := by omega
    have hn2 : (20 : Int) < (n : Int) := by omega
    go_enter Try.func4, Try.ntmps4
    go_wp2_with fail
    refine (known_any w).mono ?_
    rintro e w0 ⟨rfl, hT0⟩
    have HT0 := Lib.hid hT0
    clear hT0
    go_wp2_with fail
    go_ret
    exact ⟨rfl, HT0.out⟩
/-- What the map of LedgerFar holds. -/
def among (ps : List Nat) : Nat → Option Bool := fun x => if x ∈ ps then some true else none
theorem among_put (ps : List Nat) (y : Nat) : updN (among ps) y (some true) = among (ps ++ [y]) := by
  funext x
  unfold updN among
  by_cases h : x = y
  · rw [if_pos h, if_pos (by simp [h])]
  · rw [if_neg h]
    by_cases h2 : x ∈ ps
    · rw [if_pos h2, if_pos (by simp [h2])]
    · rw [if_neg h2, if_neg (by simp [h, h2])]
theorem among_get (ps : List Nat) (y : Nat) : (among ps y).getD kb.z = decide (y ∈ ps) := by
  unfold among
  by_cases h2 : y ∈ ps
  · rw [if_pos h2, decide_eq_true h2]; rfl
  · rw [if_neg h2, decide_eq_false h2]; rfl

set_option maxHeartbeats 4000000 in
set_option maxRecDepth 100000 in
theorem far_walk (a : Option Addr) (n c f t : Nat) (l : List Nat) (w : World) (hl : Rd w 1 (.slice a n c) n (bs l)) (hn : l.length = n) (hb : ∀ x ∈ l, x < 256) (hf : f < 256) (ht : t < 256) (h1 : 1 ≤ n) (h20 : n ≤ 20) :
    Calls Try.prog 4 #[.slice a n c, .int .u8 (f : Int), .int .u8 (t : Int)] w fun e w' => e = .returned (.bool true) ∧ Touch [] w w' := by
  have HL := Lib.hid hl
  have HN := Lib.hid hn
  have HX := Lib.hid hb
  clear hl hn hb
  have hn1 : ¬ (n : Int) < 1 := by omega
  have hn2 : ¬ (20 : Int) < (n : Int) := by omega
  have hmm := @run_makeMap Try.prog
  go_enter Try.func4, Try.ntmps4
  go_wp2_with fail
  refine (known_any w).mono ?_
  rintro e w0 ⟨rfl, hT0⟩
  have HT0 := Lib.hid hT0
  clear hT0
  go_wp2_with fail
  refine (ll_new [] (Sep.nil HT0.out)).mono ?_
  rintro e w1 ⟨p, rfl, h⟩
  have A1 := Lib.hid (ll_map (K := kb) h)
  clear h
  go_wp2_with fail
  obtain ⟨mb, hmb⟩ : ∃ mb, mb = w1.heap.size := ⟨_, rfl⟩
  obtain ⟨W, hW⟩ : ∃ W, W = w1.alloc (.map #[] 0) := ⟨_, rfl⟩
  rw [← hmb, ← hW] at A1
  rw [← hmb, ← hW]
  clear hmb hW hmm
  have A2 : Hid (LL w W p led0 [tN kb mb 0 (among [])]) := A1
  go_loopw [9, 10] (fun tp i wr => ∃ (k tp' : Nat) (ps : List Nat) (σ : Ldg), k ≤ n ∧ tp = .int .u64 (tp' : Int) ∧ i = .int .i64 (k : Int) ∧ Hid (LL w wr p σ [tN kb mb k (among ps)]) ∧ Hid (FInv k tp' ps σ)) (fun _ i _ => n - (intOf i).toNat)
  case atStart => exact ⟨0, 0, [], led0, by omega, rfl, rfl, A2, Lib.hid FInv.zero⟩
  case round =>
    obtain ⟨k, tp, ps, σ, hk, rfl, rfl, HA, HI⟩ := hrel
    have htp := HI.out.top
    by_cases hlt : k < n
    · have hlt' : (k : Int) < (n : Int) := by omega
      obtain ⟨x, hx⟩ : ∃ x, l[k]? = some x := ⟨_, List.getElem?_eq_getElem (by have := HN.out; omega)⟩
      obtain ⟨g, o, rfl, e1, hg⟩ := rd_byte (HL.out.touch HA.out.touch (by simp)) HN.out k x hx
      have hx256 := HX.out x (List.mem_of_getElem? hx)
      obtain ⟨m, hm⟩ : ∃ m, m = x % 3 := ⟨_, rfl⟩
      have hm3 : m < 3 := by omega
      have i1 : (x : Int) % 3 = (m : Int) := by omega
      obtain ⟨y, hy⟩ : ∃ y, y = tp + (m + 1) := ⟨_, rfl⟩
      have i2 : (tp : Int) + ((m : Int) + 1) = (y : Int) := by omega
      have hy1 : tp < y := by omega
      have hy2 : y ≤ tp + 3 := by omega
      obtain ⟨W2, hst, hB⟩ := ll_put HA.out y (by omega) true (by unfold maxLen; omega)
      have hst' : (Instr.mapUpdate 48 (.map (some mb)) (.int .u64 (y : Int)) (.bool true)).run Try.prog wr = .ok () W2 := hst
      have HB := Lib.hid hB
      rw [among_put] at HB
      clear hst hx hm hy hB
      go_wp2_with fail
      refine (show Calls Try.prog 10 #[.pointer (some ⟨p, 0, none⟩), .agg #[.int .u64 (y : Int), .int .u64 0, .int .i64 2, .bool true]] W2 _ from ll_send HB.out (pkF y) ⟨by show y < _; omega, by show 0 < _; decide, by show 2 < _; decide⟩ (by show 0 ≤ _; decide) (by show 2 ≤ _; decide) (by rw [HI.out.tot]; omega)).mono ?_
      rw [HI.out.fine (by omega) y hy1 hy2]
      rintro e w3 ⟨rfl, h⟩
      have A3 : Hid (LL w w3 p (sentS σ (pkF y)) [tN kb mb (k + 1) (among (ps ++ [y]))]) := Lib.hid h
      clear h
      go_wp2_with fail
      go_roundw
      case rel => exact ⟨k + 1, y, ps ++ [y], sentS σ (pkF y), by omega, rfl, by go_num, A3, Lib.hid (HI.out.next (by omega) HA.out.ok y hy1 hy2)⟩
      case measure => simp [intOf]; omega
    · obtain rfl : k = n := by omega
      obtain ⟨fa, hfa⟩ : ∃ fa, fa = f % 50 := ⟨_, rfl⟩
      obtain ⟨tb, htb⟩ : ∃ tb, tb = t % 50 := ⟨_, rfl⟩
      have hfa50 : fa < 50 := by omega
      have htb50 : tb < 50 := by omega
      have i1 : (f : Int) % 50 = (fa : Int) := by omega
      have i2 : (t : Int) % 50 = (tb : Int) := by omega
      clear hfa htb
      by_cases hab : fa ≤ tb
      · have hab' : (fa : Int) ≤ (tb : Int) := by omega
        go_wp2_with fail
        go_loopw [13, 14] (fun ok pp w5 => ∃ j : Nat, j ≤ tb + 1 - fa ∧ ok = .bool (oks ps fa j) ∧ pp = .int .u64 ((fa + j : Nat) : Int) ∧ w5 = wr) (fun _ pp _ => tb + 1 - (intOf pp).toNat)
        case atStart => exact ⟨0, by omega, rfl, rfl, rfl⟩
        case round =>
          obtain ⟨j, hj, rfl, rfl, rfl⟩ := hrel
          by_cases hlt2 : j < tb + 1 - fa
          · have hlt3 : ((fa + j : Nat) : Int) ≤ (tb : Int) := by omega
            obtain ⟨z, hz⟩ : ∃ z, z = fa + j := ⟨_, rfl⟩
            rw [← hz] at hlt3 ⊢
            have hlk := ll_look HA.out z (by omega)
            rw [among_get] at hlk
            have hlk' : (Instr.lookup 48 (.map (some mb)) (.int .u64 (z : Int)) false).run Try.prog _ = .ok (.bool (decide (z ∈ ps))) _ := hlk
            have HOS : Hid (oks ps fa (j + 1) = (oks ps fa j && decide (z ∈ ps))) := Lib.hid (by rw [hz]; rfl)
            clear hlk
            generalize decide (z ∈ ps) = B at hlk' HOS
            generalize hq : oks ps fa j = q at HOS ⊢
            have HZ := Lib.hid hz
            clear hz hq
            cases q with
            | true =>
              go_wp2_with fail
              go_roundw
              case rel => exact ⟨j + 1, by omega, by rw [HOS.out]; simp, by rw [HZ.out]; go_num, trivial⟩
              case measure => simp [intOf]; omega
            | false =>
              go_wp2_with fail
              go_roundw
              case rel => exact ⟨j + 1, by omega, by rw [HOS.out]; simp, by rw [HZ.out]; go_num, trivial⟩
              case measure => simp [intOf]; omega
          · obtain rfl : j = tb + 1 - fa := by omega
            have hlt3 : ¬ ((fa + (tb + 1 - fa) : Nat) : Int) ≤ (tb : Int) := by omega
            generalize hq : oks ps fa (tb + 1 - fa) = q
            cases q with
            | true =>
              have HBAD : Hid (ackBad σ [(fa, tb)] = false) := Lib.hid (by rw [HI.out.bad HA.out.ok hab, hq]; rfl)
              have HGD := Lib.hid (HI.out.good HA.out.ok hab hq 1 0)
              clear hq
              go_wp2_with fail
              refine (ll_flight HA.out).mono ?_
              rintro e w3 ⟨rfl, h⟩
              have A3 := Lib.hid h
              clear h
              go_wp2_with fail
              refine (ll_ack A3.out ((Touch.refl _ _).alloc _) _ 1 [(fa, tb)] 1 0 (one_rng w3 fa tb) (fun g hg => by simp [own] at hg ⊢; omega) (by simp) HBAD.out (by decide) (by decide)).mono ?_
              rintro e w4 ⟨v1, v2, rfl, h⟩
              have r1 := h.get (List.mem_cons_self ..)
              have r2 := h.get (List.mem_cons_of_mem _ (List.mem_cons_self ..))
              obtain ⟨a1, c1, rfl, _⟩ := Sl.form (show Sl _ _ _ _ _ _ from r1)
              obtain ⟨a2, c2, rfl, _⟩ := Sl.form (show Sl _ _ _ _ _ _ from r2)
              have A4 := Lib.hid h
              clear h r1 r2
              go_wp2_with fail
              refine (ll_largest A4.out).mono ?_
              rw [HGD.out]
              rintro e w5 ⟨rfl, h⟩
              have A5 := Lib.hid h
              clear h
              go_wp2_with fail
              go_ret
              exact ⟨rfl, A5.out.touch⟩
            | false =>
              have HBAD : Hid (ackBad σ [(fa, tb)] = true) := Lib.hid (by rw [HI.out.bad HA.out.ok hab, hq]; rfl)
              clear hq
              go_wp2_with fail
              refine (ll_flight HA.out).mono ?_
              rintro e w3 ⟨rfl, h⟩
              have A3 := Lib.hid h
              clear h
              go_wp2_with fail
              refine (ll_bad A3.out ((Touch.refl _ _).alloc _) _ 1 [(fa, tb)] 1 0 (one_rng w3 fa tb) (by simp) HBAD.out).mono ?_
              rintro e w4 ⟨rfl, h⟩
              have A4 := Lib.hid h
              clear h
              go_wp2_with fail
              refine (ll_flight A4.out).mono ?_
              rintro e w5 ⟨rfl, h⟩
              have A5 := Lib.hid h
              clear h
              go_wp2_with fail
              refine (ll_largest A5.out).mono ?_
              rw [HI.out.lg]
              rintro e w6 ⟨rfl, h⟩
              have A6 := Lib.hid h
              clear h
              go_wp2_with fail
              refine (ll_open A6.out).mono ?_
              rintro e w7 ⟨v7, rfl, h⟩
              have r7 : Rd w7 1 v7 (pns σ.opens).length (us (pns σ.opens)) := h.get (List.mem_cons_self ..)
              rw [pns_len, HI.out.op, List.length_map, HI.out.ln] at r7
              obtain ⟨a7, c7, rfl⟩ := r7.form
              have A7 := Lib.hid h.touch
              clear h r7
              go_wp2_with fail
              go_ret
              exact ⟨rfl, A7.out⟩
      · have hab' : ¬ (fa : Int) ≤ (tb : Int) := by omega
        have HBAD : Hid (ackBad σ [(fa, tb)] = true) := Lib.hid (bad_turned hab)
        go_wp2_with fail
        go_loopw [13, 14] (fun ok pp w5 => ok = .bool false ∧ pp = .int .u64 (fa : Int) ∧ w5 = wr) (fun _ pp _ => tb + 1 - (intOf pp).toNat)
        case atStart => exact ⟨rfl, rfl, rfl⟩
        case round =>
          obtain ⟨rfl, rfl, rfl⟩ := hrel
          go_wp2_with fail
          refine (ll_flight HA.out).mono ?_
          rintro e w3 ⟨rfl, h⟩
          have A3 := Lib.hid h
          clear h
          go_wp2_with fail
          refine (ll_bad A3.out ((Touch.refl _ _).alloc _) _ 1 [(fa, tb)] 1 0 (one_rng w3 fa tb) (by simp) HBAD.out).mono ?_
          rintro e w4 ⟨rfl, h⟩
          have A4 := Lib.hid h
          clear h
          go_wp2_with fail
          refine (ll_flight A4.out).mono ?_
          rintro e w5 ⟨rfl, h⟩
          have A5 := Lib.hid h
          clear h
          go_wp2_with fail
          refine (ll_largest A5.out).mono ?_
          rw [HI.out.lg]
          rintro e w6 ⟨rfl, h⟩
          have A6 := Lib.hid h
          clear h
          go_wp2_with fail
          refine (ll_open A6.out).mono ?_
          rintro e w7 ⟨v7, rfl, h⟩
          have r7 : Rd w7 1 v7 (pns σ.opens).length (us (pns σ.opens)) := h.get (List.mem_cons_self ..)
          rw [pns_len, HI.out.op, List.length_map, HI.out.ln] at r7
          obtain ⟨a7, c7, rfl⟩ := r7.form
          have A7 := Lib.hid h.touch
          clear h r7
          go_wp2_with fail
          go_ret
          exact ⟨rfl, A7.out⟩
end Go.Proofs.Ythnokfchebmjiaa
