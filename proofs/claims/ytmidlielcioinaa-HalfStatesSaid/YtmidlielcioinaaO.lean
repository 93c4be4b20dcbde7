/- The walk of HalfStates. Conditions: none. -/
import Derived.Test.YtmidlielcioinaaN
namespace Go.Proofs.Ytmidlielcioinaa
open Go.RowKit

set_option maxHeartbeats 4000000 in
set_option maxRecDepth 100000 in
theorem states_true (w : World) (a c : Nat) (ha : a < 256) (hc : c < 256) : Calls Try.prog 6 #[.int .u8 (a : Int), .bool true, .int .u8 (c : Int)] w fun e w' => e = .returned (.bool true) ∧ Touch [] w w' := by
  obtain ⟨n, hn⟩ : ∃ n, n = a % 50 + 1 := ⟨_, rfl⟩
  have h1 : 1 ≤ n := by omega
  have h2 : n ≤ 50 := by omega
  have hq1 : Int.tmod (a : Int) 50 = (n : Int) - 1 := by rw [Int.tmod_eq_emod_of_nonneg (by omega)]; omega
  have hq3 : Int.tmod (c : Int) 4 = (c : Int) % 4 := Int.tmod_eq_emod_of_nonneg (by omega)
  have HR := Lib.hid (st_ready n true)
  have HW := Lib.hid (st_write n true)
  have HN1 := Lib.hid (st_next n true h1 h2)
  have HS2 := Lib.hid (fun h => st_send n true h)
  have HN3 := Lib.hid (st_rest n true h1 h2)
  have HS3 := Lib.hid (st_sent n true h1)
  have HA4 := Lib.hid (st_ack n true h1 h2)
  have HS4 := Lib.hid (st_notdone n true h1)
  have HS5 := Lib.hid (st_recvd n true h1)
  have HL5 := Lib.hid (st_lost n true h1 h2)
  have HN5 := Lib.hid (st_end n true 9 h1 h2)
  have HR5 := Lib.hid (st_lastreset n true h1)
  obtain ⟨k, hk⟩ : ∃ k, k = n / 2 := ⟨_, rfl⟩
  have hq2 : Int.tdiv (n : Int) 2 = (k : Int) := by rw [Int.tdiv_eq_ediv_of_nonneg (by omega)]; omega
  have HK := Lib.hid hk
  rw [← hk] at HN1 HS2 HN3
  have hmk := make_zero n (by omega)
  have hk1 : k ≤ 25 := by omega
  clear hn hk ha
  go_enter Try.func6, Try.ntmps6
  go_wp2_with fail
  refine (known_any _).mono ?_
  rintro e w1 ⟨rfl, hT⟩
  have T1 := Lib.hid hT
  clear hT
  go_wp2_with fail
  refine (show Calls Try.prog 9 #[.int .u64 1000] w1 _ from at_new w w1 1000 T1.out).mono ?_
  rw [st_new]
  rintro e w2 ⟨p, rfl, h⟩
  have A2 := Lib.hid h
  clear h
  go_wp2_with fail
  refine (at_state A2.out).mono ?_
  rw [show stateV ⟨[], false, 0, 0, [], [], 1000, false⟩ = vReady from rfl]
  rintro e w3 ⟨rfl, h⟩
  have A3 := Lib.hid h
  clear h
  unfold vReady
  go_wp2_with fail
  refine (at_write (A3.out.keep ((Touch.refl _ _).alloc _)) _ n (z0 n) true (rd_zero w3 n) (z0_len n) (by show 0 + n ≤ 50000; omega)).mono ?_
  rw [HW.out]
  rintro e w4 ⟨rfl, h⟩
  have A4 := Lib.hid h
  clear h
  go_wp2_with fail
  refine (at_state A4.out).mono ?_
  rw [HR.out]
  rintro e w5 ⟨rfl, h⟩
  have A5 := Lib.hid h
  clear h
  unfold vReady
  go_wp2_with fail
  refine (at_next A5.out (k : Int) (by omega)).mono ?_
  rw [show ((k : Int)).toNat = k from rfl, HN1.out]
  rintro e w6 ⟨v, rfl, hv, h⟩
  have A6 := Lib.hid h.drop
  have hv := hv.form
  simp only [z0_len] at hv
  obtain ⟨va, vc, rfl⟩ := hv
  clear h
  by_cases hk0 : (k : Int) = 0
  · obtain rfl : k = 0 := by omega
    have A7 := Lib.hid A6.out
    clear A6
    by_cases hc4 : (c : Int) % 4 = 1
    · go_wp2_with fail
      refine (show Calls Try.prog 19 #[.pointer (some ⟨p, 0, none⟩), .int .u64 7] _ _ from at_reset A7.out 7).mono ?_
      rw [st_reset]
      rintro e w8 ⟨rfl, h⟩
      have A8 : Hid (AtSnd w w8 p (s3r n true) []) := Lib.hid h
      clear h
      go_wp2_with fail
      refine (show Calls Try.prog 19 #[.pointer (some ⟨p, 0, none⟩), .int .u64 7] _ _ from at_reset A8.out 7).mono ?_
      rw [st_reset2]
      rintro e w9 ⟨rfl, h⟩
      have A9 : Hid (AtSnd w w9 p (s3r n true) []) := Lib.hid h
      clear h
      go_wp2_with fail
      refine (at_next A9.out 9 (by decide)).mono ?_
      rw [st_next3]
      rintro e w10 ⟨v2, rfl, _, h⟩
      have A10 := Lib.hid h.drop
      clear h
      have htop : (s2 n true).top = 0 := HK.out.symm
      rw [htop]
      go_wp2_with fail
      refine (at_state A10.out).mono ?_
      rw [st_state3]
      rintro e w11 ⟨rfl, h⟩
      have A11 := Lib.hid h
      clear h
      unfold vReset
      go_wp2_with fail
      refine (at_write A11.out (.slice none 0 0) 0 [] true ⟨rfl, .inl ⟨_, _, rfl, rfl⟩⟩ rfl (by show (z0 n).length + 0 ≤ 50000; rw [z0_len]; omega)).mono ?_
      rw [st_write3, show (!((s3r n true).ended || (s3r n true).reset)) = false from rfl]
      rintro e w12 ⟨rfl, h⟩
      have A12 := Lib.hid h
      clear h
      go_wp2_with fail
      go_ret
      exact ⟨rfl, A12.out.touch⟩
    · go_wp2_with fail
      refine (at_next A7.out 1000 (by decide)).mono ?_
      rw [show ((1000 : Int)).toNat = 1000 from rfl, HN3.out]
      rintro e w8 ⟨v2, rfl, _, h⟩
      have A8 := Lib.hid h.drop
      clear h
      go_wp2_with fail
      refine (at_state A8.out).mono ?_
      rw [HS3.out]
      rintro e w9 ⟨rfl, h⟩
      have A9 := Lib.hid h
      clear h
      simp only [if_true, vSent]
      go_wp2_with fail
      refine (show Calls Try.prog 13 #[.pointer (some ⟨p, 0, none⟩), .int .u64 0, .int .i64 (n : Int), .bool false] w9 _ from at_acked A9.out 0 (n : Int) false (by omega) (by decide)).mono ?_
      rw [HA4.out]
      rintro e w10 ⟨rfl, h⟩
      have A10 := Lib.hid h
      clear h
      go_wp2_with fail
      refine (at_state A10.out).mono ?_
      rw [HS4.out]
      rintro e w11 ⟨rfl, h⟩
      have A11 := Lib.hid h
      clear h
      simp only [if_true, vSent]
      go_wp2_with fail
      refine (show Calls Try.prog 13 #[.pointer (some ⟨p, 0, none⟩), .int .u64 0, .int .i64 0, .bool true] w11 _ from at_acked A11.out 0 0 true (by decide) (by decide)).mono ?_
      rw [st_ackfin]
      rintro e w12 ⟨rfl, h⟩
      have A12 := Lib.hid h
      clear h
      go_wp2_with fail
      refine (at_state A12.out).mono ?_
      rw [HS5.out]
      rintro e w13 ⟨rfl, h⟩
      have A13 := Lib.hid h
      clear h
      simp only [if_true, vRecvd]
      go_wp2_with fail
      refine (show Calls Try.prog 12 #[.pointer (some ⟨p, 0, none⟩), .int .u64 0, .int .i64 (n : Int), .bool true] w13 _ from at_lost A13.out 0 (n : Int) true (by omega) (by decide)).mono ?_
      rw [HL5.out]
      rintro e w14 ⟨rfl, h⟩
      have A14 := Lib.hid h
      clear h
      go_wp2_with fail
      refine (at_next A14.out 9 (by decide)).mono ?_
      rw [show ((9 : Int)).toNat = 9 from rfl, HN5.out]
      rintro e w15 ⟨v3, rfl, _, h⟩
      have A15 := Lib.hid h.drop
      clear h
      go_wp2_with fail
      refine (show Calls Try.prog 19 #[.pointer (some ⟨p, 0, none⟩), .int .u64 1] _ _ from at_reset A15.out 1).mono ?_
      rw [HR5.out]
      rintro e w16 ⟨rfl, h⟩
      have A16 := Lib.hid h.touch
      clear h
      go_wp2_with fail
      go_ret
      exact ⟨rfl, A16.out⟩
  · have hkp : 0 < k := by omega
    rw [show decide (0 < k) = true from decide_eq_true hkp]
    go_wp2_with fail
    refine (at_state A6.out).mono ?_
    rw [HS2.out hkp]
    rintro e w7 ⟨rfl, h⟩
    have A7 := Lib.hid h
    clear h A6
    unfold vSend
    by_cases hc4 : (c : Int) % 4 = 1
    · go_wp2_with fail
      refine (show Calls Try.prog 19 #[.pointer (some ⟨p, 0, none⟩), .int .u64 7] _ _ from at_reset A7.out 7).mono ?_
      rw [st_reset]
      rintro e w8 ⟨rfl, h⟩
      have A8 : Hid (AtSnd w w8 p (s3r n true) []) := Lib.hid h
      clear h
      go_wp2_with fail
      refine (show Calls Try.prog 19 #[.pointer (some ⟨p, 0, none⟩), .int .u64 7] _ _ from at_reset A8.out 7).mono ?_
      rw [st_reset2]
      rintro e w9 ⟨rfl, h⟩
      have A9 : Hid (AtSnd w w9 p (s3r n true) []) := Lib.hid h
      clear h
      go_wp2_with fail
      refine (at_next A9.out 9 (by decide)).mono ?_
      rw [st_next3]
      rintro e w10 ⟨v2, rfl, _, h⟩
      have A10 := Lib.hid h.drop
      clear h
      have htop : (s2 n true).top = k := HK.out.symm
      rw [htop]
      go_wp2_with fail
      refine (at_state A10.out).mono ?_
      rw [st_state3]
      rintro e w11 ⟨rfl, h⟩
      have A11 := Lib.hid h
      clear h
      unfold vReset
      go_wp2_with fail
      refine (at_write A11.out (.slice none 0 0) 0 [] true ⟨rfl, .inl ⟨_, _, rfl, rfl⟩⟩ rfl (by show (z0 n).length + 0 ≤ 50000; rw [z0_len]; omega)).mono ?_
      rw [st_write3, show (!((s3r n true).ended || (s3r n true).reset)) = false from rfl]
      rintro e w12 ⟨rfl, h⟩
      have A12 := Lib.hid h
      clear h
      go_wp2_with fail
      go_ret
      exact ⟨rfl, A12.out.touch⟩
    · go_wp2_with fail
      refine (at_next A7.out 1000 (by decide)).mono ?_
      rw [show ((1000 : Int)).toNat = 1000 from rfl, HN3.out]
      rintro e w8 ⟨v2, rfl, _, h⟩
      have A8 := Lib.hid h.drop
      clear h
      go_wp2_with fail
      refine (at_state A8.out).mono ?_
      rw [HS3.out]
      rintro e w9 ⟨rfl, h⟩
      have A9 := Lib.hid h
      clear h
      simp only [if_true, vSent]
      go_wp2_with fail
      refine (show Calls Try.prog 13 #[.pointer (some ⟨p, 0, none⟩), .int .u64 0, .int .i64 (n : Int), .bool false] w9 _ from at_acked A9.out 0 (n : Int) false (by omega) (by decide)).mono ?_
      rw [HA4.out]
      rintro e w10 ⟨rfl, h⟩
      have A10 := Lib.hid h
      clear h
      go_wp2_with fail
      refine (at_state A10.out).mono ?_
      rw [HS4.out]
      rintro e w11 ⟨rfl, h⟩
      have A11 := Lib.hid h
      clear h
      simp only [if_true, vSent]
      go_wp2_with fail
      refine (show Calls Try.prog 13 #[.pointer (some ⟨p, 0, none⟩), .int .u64 0, .int .i64 0, .bool true] w11 _ from at_acked A11.out 0 0 true (by decide) (by decide)).mono ?_
      rw [st_ackfin]
      rintro e w12 ⟨rfl, h⟩
      have A12 := Lib.hid h
      clear h
      go_wp2_with fail
      refine (at_state A12.out).mono ?_
      rw [HS5.out]
      rintro e w13 ⟨rfl, h⟩
      have A13 := Lib.hid h
      clear h
      simp only [if_true, vRecvd]
      go_wp2_with fail
      refine (show Calls Try.prog 12 #[.pointer (some ⟨p, 0, none⟩), .int .u64 0, .int .i64 (n : Int), .bool true] w13 _ from at_lost A13.out 0 (n : Int) true (by omega) (by decide)).mono ?_
      rw [HL5.out]
      rintro e w14 ⟨rfl, h⟩
      have A14 := Lib.hid h
      clear h
      go_wp2_with fail
      refine (at_next A14.out 9 (by decide)).mono ?_
      rw [show ((9 : Int)).toNat = 9 from rfl, HN5.out]
      rintro e w15 ⟨v3, rfl, _, h⟩
      have A15 := Lib.hid h.drop
      clear h
      go_wp2_with fail
      refine (show Calls Try.prog 19 #[.pointer (some ⟨p, 0, none⟩), .int .u64 1] _ _ from at_reset A15.out 1).mono ?_
      rw [HR5.out]
      rintro e w16 ⟨rfl, h⟩
      have A16 := Lib.hid h.touch
      clear h
      go_wp2_with fail
      go_ret
      exact ⟨rfl, A16.out⟩

set_option maxHeartbeats 4000000 in
set_option maxRecDepth 100000 in
theorem states_false (w : World) (a c : Nat) (ha : a < 256) (hc : c < 256) : Calls Try.prog 6 #[.int .u8 (a : Int), .bool false, .int .u8 (c : Int)] w fun e w' => e = .returned (.bool true) ∧ Touch [] w w' := by
  obtain ⟨n, hn⟩ : ∃ n, n = a % 50 + 1 := ⟨_, rfl⟩
  have h1 : 1 ≤ n := by omega
  have h2 : n ≤ 50 := by omega
  have hq1 : Int.tmod (a : Int) 50 = (n : Int) - 1 := by rw [Int.tmod_eq_emod_of_nonneg (by omega)]; omega
  have hq3 : Int.tmod (c : Int) 4 = (c : Int) % 4 := Int.tmod_eq_emod_of_nonneg (by omega)
  have HR := Lib.hid (st_ready n false)
  have HW := Lib.hid (st_write n false)
  have HN1 := Lib.hid (st_next n false h1 h2)
  have HS2 := Lib.hid (fun h => st_send n false h)
  have HN3 := Lib.hid (st_rest n false h1 h2)
  have HS3 := Lib.hid (st_sent n false h1)
  have HA4 := Lib.hid (st_ack n false h1 h2)
  have HS4 := Lib.hid (st_notdone n false h1)
  have HS5 := Lib.hid (st_recvd n false h1)
  have HL5 := Lib.hid (st_lost n false h1 h2)
  have HN5 := Lib.hid (st_end n false 9 h1 h2)
  have HR5 := Lib.hid (st_lastreset n false h1)
  obtain ⟨k, hk⟩ : ∃ k, k = n / 2 := ⟨_, rfl⟩
  have hq2 : Int.tdiv (n : Int) 2 = (k : Int) := by rw [Int.tdiv_eq_ediv_of_nonneg (by omega)]; omega
  have HK := Lib.hid hk
  rw [← hk] at HN1 HS2 HN3
  have hmk := make_zero n (by omega)
  have hk1 : k ≤ 25 := by omega
  clear hn hk ha
  go_enter Try.func6, Try.ntmps6
  go_wp2_with fail
  refine (known_any _).mono ?_
  rintro e w1 ⟨rfl, hT⟩
  have T1 := Lib.hid hT
  clear hT
  go_wp2_with fail
  refine (show Calls Try.prog 9 #[.int .u64 1000] w1 _ from at_new w w1 1000 T1.out).mono ?_
  rw [st_new]
  rintro e w2 ⟨p, rfl, h⟩
  have A2 := Lib.hid h
  clear h
  go_wp2_with fail
  refine (at_state A2.out).mono ?_
  rw [show stateV ⟨[], false, 0, 0, [], [], 1000, false⟩ = vReady from rfl]
  rintro e w3 ⟨rfl, h⟩
  have A3 := Lib.hid h
  clear h
  unfold vReady
  go_wp2_with fail
  refine (at_write (A3.out.keep ((Touch.refl _ _).alloc _)) _ n (z0 n) false (rd_zero w3 n) (z0_len n) (by show 0 + n ≤ 50000; omega)).mono ?_
  rw [HW.out]
  rintro e w4 ⟨rfl, h⟩
  have A4 := Lib.hid h
  clear h
  go_wp2_with fail
  refine (at_state A4.out).mono ?_
  rw [HR.out]
  rintro e w5 ⟨rfl, h⟩
  have A5 := Lib.hid h
  clear h
  unfold vReady
  go_wp2_with fail
  refine (at_next A5.out (k : Int) (by omega)).mono ?_
  rw [show ((k : Int)).toNat = k from rfl, HN1.out]
  rintro e w6 ⟨v, rfl, hv, h⟩
  have A6 := Lib.hid h.drop
  have hv := hv.form
  simp only [z0_len] at hv
  obtain ⟨va, vc, rfl⟩ := hv
  clear h
  by_cases hk0 : (k : Int) = 0
  · obtain rfl : k = 0 := by omega
    have A7 := Lib.hid A6.out
    clear A6
    by_cases hc4 : (c : Int) % 4 = 1
    · go_wp2_with fail
      refine (show Calls Try.prog 19 #[.pointer (some ⟨p, 0, none⟩), .int .u64 7] _ _ from at_reset A7.out 7).mono ?_
      rw [st_reset]
      rintro e w8 ⟨rfl, h⟩
      have A8 : Hid (AtSnd w w8 p (s3r n false) []) := Lib.hid h
      clear h
      go_wp2_with fail
      refine (show Calls Try.prog 19 #[.pointer (some ⟨p, 0, none⟩), .int .u64 7] _ _ from at_reset A8.out 7).mono ?_
      rw [st_reset2]
      rintro e w9 ⟨rfl, h⟩
      have A9 : Hid (AtSnd w w9 p (s3r n false) []) := Lib.hid h
      clear h
      go_wp2_with fail
      refine (at_next A9.out 9 (by decide)).mono ?_
      rw [st_next3]
      rintro e w10 ⟨v2, rfl, _, h⟩
      have A10 := Lib.hid h.drop
      clear h
      have htop : (s2 n false).top = 0 := HK.out.symm
      rw [htop]
      go_wp2_with fail
      refine (at_state A10.out).mono ?_
      rw [st_state3]
      rintro e w11 ⟨rfl, h⟩
      have A11 := Lib.hid h
      clear h
      unfold vReset
      go_wp2_with fail
      refine (at_write A11.out (.slice none 0 0) 0 [] true ⟨rfl, .inl ⟨_, _, rfl, rfl⟩⟩ rfl (by show (z0 n).length + 0 ≤ 50000; rw [z0_len]; omega)).mono ?_
      rw [st_write3, show (!((s3r n false).ended || (s3r n false).reset)) = false from rfl]
      rintro e w12 ⟨rfl, h⟩
      have A12 := Lib.hid h
      clear h
      go_wp2_with fail
      go_ret
      exact ⟨rfl, A12.out.touch⟩
    · go_wp2_with fail
      refine (at_next A7.out 1000 (by decide)).mono ?_
      rw [show ((1000 : Int)).toNat = 1000 from rfl, HN3.out]
      rintro e w8 ⟨v2, rfl, _, h⟩
      have A8 := Lib.hid h.drop
      clear h
      go_wp2_with fail
      refine (at_state A8.out).mono ?_
      rw [HS3.out]
      rintro e w9 ⟨rfl, h⟩
      have A9 := Lib.hid h
      clear h
      simp only [if_false, Bool.false_eq_true, vSend]
      go_wp2_with fail
      refine (show Calls Try.prog 13 #[.pointer (some ⟨p, 0, none⟩), .int .u64 0, .int .i64 (n : Int), .bool false] w9 _ from at_acked A9.out 0 (n : Int) false (by omega) (by decide)).mono ?_
      rw [HA4.out]
      rintro e w10 ⟨rfl, h⟩
      have A10 := Lib.hid h
      clear h
      go_wp2_with fail
      refine (at_state A10.out).mono ?_
      rw [HS4.out]
      rintro e w11 ⟨rfl, h⟩
      have A11 := Lib.hid h
      clear h
      simp only [if_false, Bool.false_eq_true, vSend]
      go_wp2_with fail
      refine (show Calls Try.prog 13 #[.pointer (some ⟨p, 0, none⟩), .int .u64 0, .int .i64 0, .bool true] w11 _ from at_acked A11.out 0 0 true (by decide) (by decide)).mono ?_
      rw [st_ackfin]
      rintro e w12 ⟨rfl, h⟩
      have A12 := Lib.hid h
      clear h
      go_wp2_with fail
      refine (at_state A12.out).mono ?_
      rw [HS5.out]
      rintro e w13 ⟨rfl, h⟩
      have A13 := Lib.hid h
      clear h
      simp only [if_false, Bool.false_eq_true, vSend]
      go_wp2_with fail
      refine (show Calls Try.prog 12 #[.pointer (some ⟨p, 0, none⟩), .int .u64 0, .int .i64 (n : Int), .bool true] w13 _ from at_lost A13.out 0 (n : Int) true (by omega) (by decide)).mono ?_
      rw [HL5.out]
      rintro e w14 ⟨rfl, h⟩
      have A14 := Lib.hid h
      clear h
      go_wp2_with fail
      refine (at_next A14.out 9 (by decide)).mono ?_
      rw [show ((9 : Int)).toNat = 9 from rfl, HN5.out]
      rintro e w15 ⟨v3, rfl, _, h⟩
      have A15 := Lib.hid h.drop
      clear h
      go_wp2_with fail
      refine (show Calls Try.prog 19 #[.pointer (some ⟨p, 0, none⟩), .int .u64 1] _ _ from at_reset A15.out 1).mono ?_
      rw [HR5.out]
      rintro e w16 ⟨rfl, h⟩
      have A16 := Lib.hid h.touch
      clear h
      go_wp2_with fail
      go_ret
      exact ⟨rfl, A16.out⟩
  · have hkp : 0 < k := by omega
    rw [show decide (0 < k) = true from decide_eq_true hkp]
    go_wp2_with fail
    refine (at_state A6.out).mono ?_
    rw [HS2.out hkp]
    rintro e w7 ⟨rfl, h⟩
    have A7 := Lib.hid h
    clear h A6
    unfold vSend
    by_cases hc4 : (c : Int) % 4 = 1
    · go_wp2_with fail
      refine (show Calls Try.prog 19 #[.pointer (some ⟨p, 0, none⟩), .int .u64 7] _ _ from at_reset A7.out 7).mono ?_
      rw [st_reset]
      rintro e w8 ⟨rfl, h⟩
      have A8 : Hid (AtSnd w w8 p (s3r n false) []) := Lib.hid h
      clear h
      go_wp2_with fail
      refine (show Calls Try.prog 19 #[.pointer (some ⟨p, 0, none⟩), .int .u64 7] _ _ from at_reset A8.out 7).mono ?_
      rw [st_reset2]
      rintro e w9 ⟨rfl, h⟩
      have A9 : Hid (AtSnd w w9 p (s3r n false) []) := Lib.hid h
      clear h
      go_wp2_with fail
      refine (at_next A9.out 9 (by decide)).mono ?_
      rw [st_next3]
      rintro e w10 ⟨v2, rfl, _, h⟩
      have A10 := Lib.hid h.drop
      clear h
      have htop : (s2 n false).top = k := HK.out.symm
      rw [htop]
      go_wp2_with fail
      refine (at_state A10.out).mono ?_
      rw [st_state3]
      rintro e w11 ⟨rfl, h⟩
      have A11 := Lib.hid h
      clear h
      unfold vReset
      go_wp2_with fail
      refine (at_write A11.out (.slice none 0 0) 0 [] true ⟨rfl, .inl ⟨_, _, rfl, rfl⟩⟩ rfl (by show (z0 n).length + 0 ≤ 50000; rw [z0_len]; omega)).mono ?_
      rw [st_write3, show (!((s3r n false).ended || (s3r n false).reset)) = false from rfl]
      rintro e w12 ⟨rfl, h⟩
      have A12 := Lib.hid h
      clear h
      go_wp2_with fail
      go_ret
      exact ⟨rfl, A12.out.touch⟩
    · go_wp2_with fail
      refine (at_next A7.out 1000 (by decide)).mono ?_
      rw [show ((1000 : Int)).toNat = 1000 from rfl, HN3.out]
      rintro e w8 ⟨v2, rfl, _, h⟩
      have A8 := Lib.hid h.drop
      clear h
      go_wp2_with fail
      refine (at_state A8.out).mono ?_
      rw [HS3.out]
      rintro e w9 ⟨rfl, h⟩
      have A9 := Lib.hid h
      clear h
      simp only [if_false, Bool.false_eq_true, vSend]
      go_wp2_with fail
      refine (show Calls Try.prog 13 #[.pointer (some ⟨p, 0, none⟩), .int .u64 0, .int .i64 (n : Int), .bool false] w9 _ from at_acked A9.out 0 (n : Int) false (by omega) (by decide)).mono ?_
      rw [HA4.out]
      rintro e w10 ⟨rfl, h⟩
      have A10 := Lib.hid h
      clear h
      go_wp2_with fail
      refine (at_state A10.out).mono ?_
      rw [HS4.out]
      rintro e w11 ⟨rfl, h⟩
      have A11 := Lib.hid h
      clear h
      simp only [if_false, Bool.false_eq_true, vSend]
      go_wp2_with fail
      refine (show Calls Try.prog 13 #[.pointer (some ⟨p, 0, none⟩), .int .u64 0, .int .i64 0, .bool true] w11 _ from at_acked A11.out 0 0 true (by decide) (by decide)).mono ?_
      rw [st_ackfin]
      rintro e w12 ⟨rfl, h⟩
      have A12 := Lib.hid h
      clear h
      go_wp2_with fail
      refine (at_state A12.out).mono ?_
      rw [HS5.out]
      rintro e w13 ⟨rfl, h⟩
      have A13 := Lib.hid h
      clear h
      simp only [if_false, Bool.false_eq_true, vSend]
      go_wp2_with fail
      refine (show Calls Try.prog 12 #[.pointer (some ⟨p, 0, none⟩), .int .u64 0, .int .i64 (n : Int), .bool true] w13 _ from at_lost A13.out 0 (n : Int) true (by omega) (by decide)).mono ?_
      rw [HL5.out]
      rintro e w14 ⟨rfl, h⟩
      have A14 := Lib.hid h
      clear h
      go_wp2_with fail
      refine (at_next A14.out 9 (by decide)).mono ?_
      rw [show ((9 : Int)).toNat = 9 from rfl, HN5.out]
      rintro e w15 ⟨v3, rfl, _, h⟩
      have A15 := Lib.hid h.drop
      clear h
      go_wp2_with fail
      refine (show Calls Try.prog 19 #[.pointer (some ⟨p, 0, none⟩), .int .u64 1] _ _ from at_reset A15.out 1).mono ?_
      rw [HR5.out]
      rintro e w16 ⟨rfl, h⟩
      have A16 := Lib.hid h.touch
      clear h
      go_wp2_with fail
      go_ret
      exact ⟨rfl, A16.out⟩

end Go.Proofs.Ytmidlielcioinaa
