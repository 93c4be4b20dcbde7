/- A case of a round of NetPlays: pull_no. Conditions: as the walk has them. -/
import Derived.Test.YtaklbobmbobcaaaW0
namespace Go.Proofs.Ytaklbobmbobcaaa
open Go.RowKit
set_option linter.unusedVariables false

set_option maxRecDepth 1000000 in
set_option maxHeartbeats 8000000 in
theorem case_pull_no {w wr : World} {q : Nat} {a0 : Option Addr} {cap : Nat} {xs : List Act3} {K1 : Act → World → Prop} {R : Ending → World → Prop} {k : Nat} {L : List (List UInt8)} {va : Option Addr} {vc : Nat}
    (hx0 : IsActs w a0 xs) (hl : xs.length ≤ 60) (hA : NetAt w wr q L L (.slice va L.length vc)) (hL : L.length ≤ 2 * k) (hB : ∀ b ∈ L, b.length ≤ 50) (hk : k ≤ xs.length) (hlt : k < xs.length)
    {what n : Int} {v : Value} {b : List UInt8} (hx : xs[k]? = some ⟨what, n, v, b⟩) (hb50 : b.length ≤ 50)
    (hd : what % 5 = 2)
    (hin0 : hasB (placeOf what n) L.length = false)
    (u1 u2 u6 u7 u8 u9 u10 u11 u12 u13 u14 u15 u16 u17 u18 u19 u20 u21 u22 u23 u24 u25 u26 u27 u28 u29 u30 u31 u32 u33 u34 u35 u36 u37 u38 u39 u40 u41 u42 u43 u44 u45 u46 u47 u48 u49 u50 u51 u52 u53 u54 u55 u56 u57 u58 u59 u60 u61 u62 u63 u64 u65 u66 u67 u68 u69 u70 u71 u72 u73 u74 u75 u76 u77 u78 u79 u80 u81 u82 u83 u84 u85 u86 u87 u88 u89 u90 u91 u92 u93 u94 u95 u96 u97 u98 u99 u100 u101 u102 u103 u104 u105 u106 u107 u108 u109 u110 u111 u112 u113 u114 u115 u116 u117 u118 u119 u120 u121 u122 u123 u124 u125 u126 u127 u128 u129 u130 u131 u132 u133 u134 u135 u136 u137 u138 u139 u140 u141 u142 u143 u144 u145 u146 u147 u148 u149 u150 u151 u152 u153 u154 u155 u156 u157 u158 u159 u160 u161 u162 u163 u164 u165 u166 u167 u168 u169 u170 u171 u172 u173 u174 u175 u176 u177 u178 u179 u180 u181 u182 u183 u184 : Value) : Code.wp Try.prog body (Exit.then (fun a' w'' => WI w q a0 cap xs a' w'' ∧ Wmu xs a' w'' < Wmu xs ⟨#[.slice a0 xs.length cap, u1, u2, .pointer (some ⟨q, 0, none⟩), .slice va L.length vc, .int .i64 (k : Int), u6, u7, u8, u9, u10, u11, u12, u13, u14, u15, u16, u17, u18, u19, u20, u21, u22, u23, u24, u25, u26, u27, u28, u29, u30, u31, u32, u33, u34, u35, u36, u37, u38, u39, u40, u41, u42, u43, u44, u45, u46, u47, u48, u49, u50, u51, u52, u53, u54, u55, u56, u57, u58, u59, u60, u61, u62, u63, u64, u65, u66, u67, u68, u69, u70, u71, u72, u73, u74, u75, u76, u77, u78, u79, u80, u81, u82, u83, u84, u85, u86, u87, u88, u89, u90, u91, u92, u93, u94, u95, u96, u97, u98, u99, u100, u101, u102, u103, u104, u105, u106, u107, u108, u109, u110, u111, u112, u113, u114, u115, u116, u117, u118, u119, u120, u121, u122, u123, u124, u125, u126, u127, u128, u129, u130, u131, u132, u133, u134, u135, u136, u137, u138, u139, u140, u141, u142, u143, u144, u145, u146, u147, u148, u149, u150, u151, u152, u153, u154, u155, u156, u157, u158, u159, u160, u161, u162, u163, u164, u165, u166, u167, u168, u169, u170, u171, u172, u173, u174, u175, u176, u177, u178, u179, u180, u181, u182, u183, u184], []⟩ wr) (Exit.inBlock 0 (Exit.then K1 (bodyPost Try.prog Try.f4 R)))) ⟨#[.slice a0 xs.length cap, u1, u2, .pointer (some ⟨q, 0, none⟩), .slice va L.length vc, .int .i64 (k : Int), u6, u7, u8, u9, u10, u11, u12, u13, u14, u15, u16, u17, u18, u19, u20, u21, u22, u23, u24, u25, u26, u27, u28, u29, u30, u31, u32, u33, u34, u35, u36, u37, u38, u39, u40, u41, u42, u43, u44, u45, u46, u47, u48, u49, u50, u51, u52, u53, u54, u55, u56, u57, u58, u59, u60, u61, u62, u63, u64, u65, u66, u67, u68, u69, u70, u71, u72, u73, u74, u75, u76, u77, u78, u79, u80, u81, u82, u83, u84, u85, u86, u87, u88, u89, u90, u91, u92, u93, u94, u95, u96, u97, u98, u99, u100, u101, u102, u103, u104, u105, u106, u107, u108, u109, u110, u111, u112, u113, u114, u115, u116, u117, u118, u119, u120, u121, u122, u123, u124, u125, u126, u127, u128, u129, u130, u131, u132, u133, u134, u135, u136, u137, u138, u139, u140, u141, u142, u143, u144, u145, u146, u147, u148, u149, u150, u151, u152, u153, u154, u155, u156, u157, u158, u159, u160, u161, u162, u163, u164, u165, u166, u167, u168, u169, u170, u171, u172, u173, u174, u175, u176, u177, u178, u179, u180, u181, u182, u183, u184], []⟩ wr := by
  conv => arg 2; whnf
  obtain ⟨j0, hj, hy0, hy1, hy2⟩ := info_parts info9
  obtain ⟨i0, hi, hz0, hz1, hz2⟩ := info_parts info5
  have HX := Lib.hid hx0
  have HA := Lib.hid hA
  have HL := Lib.hid hL
  have HBL := Lib.hid hB
  have HIN0 := Lib.hid hin0
  clear hx0 hA hL hB hin0
  have hacts := HX.out.below HA.out.below
  rcases hacts with rfl | ⟨bb, off, rfl, hbl, hc⟩
  · simp at hlt
  obtain ⟨c0, c1, c2, hrd, hw, hn⟩ := hc k _ hx
  simp only at c0 c1 c2 hrd hw hn
  obtain ⟨av, cv, rfl⟩ := hrd.form
  have HR := Lib.hid hrd
  have HN := Lib.hid hn
  have HW := Lib.hid hw
  have hbl2 : bb < w.heap.size := by
    rcases HX.out with rfl | ⟨b', o', he, h1, _⟩
    · simp at hlt
    · simp at he
      omega
  have HBB := Lib.hid hbl2
  clear hc hx hrd hn hbl hbl2
  · have hq1 : Int.tdiv what 8 = what / 8 := Int.tdiv_eq_ediv_of_nonneg hw.1
    have hq2 : Int.tmod (what / 8) 4 = what / 8 % 4 := Int.tmod_eq_emod_of_nonneg (by omega)
    have hq3 : Int.tmod what 5 = what % 5 := Int.tmod_eq_emod_of_nonneg hw.1
    have htm := tmod5 n
    have HTM := Lib.hid htm
    have HQ3 := Lib.hid hq3
    clear htm hq3
    go_upto_if 43 with fail
    go_cut [6] from 18 to 184 (fun s6 wx => wx = wr ∧ s6 = .int .i64 (placeOf what n))
    case first =>
      by_cases h8 : 0 < what / 8 % 4
      · have hp : placeOf what n = Int.tmod n 5 := by simp [placeOf, h8]
        have HP := Lib.hid hp
        clear hp
        go_wp2_with fail
        go_meet
        exact ⟨rfl, by rw [HP.out]⟩
      · have hp : placeOf what n = n := by simp [placeOf, h8]
        have HP := Lib.hid hp
        clear hp
        go_wp2_with fail
        go_meet
        exact ⟨rfl, by rw [HP.out]⟩
    case rest =>
      obtain ⟨hwc, rfl⟩ := hcut
      subst hwc
      obtain ⟨wr, rfl⟩ : ∃ w' : World, w' = wc := ⟨_, rfl⟩
      have hκ : -9223372036854775808 ≤ placeOf what n ∧ placeOf what n ≤ 9223372036854775807 := by
        have h1 := HN.out
        have h2 := HTM.out
        unfold placeOf
        split <;> omega
      generalize placeOf what n = κ at *
      have HK := Lib.hid hκ
      have hL2 : (L.length : Int) ≤ 120 := by have := HL.out; omega
      clear hκ hq1 hq2
      go_upto_region 15 with fail
      go_cut [7] from 18 to 184 (fun s7 wx => wx = wr ∧ s7 = .bool (hasB κ L.length))
      case first =>
        by_cases h0 : 0 ≤ κ
        · have h0' : decide (0 ≤ κ) = true := by simpa using h0
          go_wp2_with fail
          go_meet
          exact ⟨rfl, by simp [hasB, h0']⟩
        · have h0' : decide (0 ≤ κ) = false := by simpa using h0
          go_wp2_with fail
          go_meet
          exact ⟨rfl, by simp [hasB, h0']⟩
      case rest =>
        obtain ⟨hwc, rfl⟩ := hcut
        subst hwc
        obtain ⟨wr, rfl⟩ : ∃ w' : World, w' = wc := ⟨_, rfl⟩
        have HAD := Lib.hid (HA.out.keep ((Touch.refl [] _).drew))
        have hq0 : Int.tmod what 5 = 2 := HQ3.out.trans hd
        clear hd
        have hin := HIN0.out
        rw [hin]
        have HIN := Lib.hid hin
        clear hin
        go_wp2_with fail
        refine (net_pull_no HA.out κ (by rw [HIN.out])).mono ?_
        rintro e w4 ⟨rfl, rfl⟩
        go_wp2_with fail
        go_quiet (fail)
        have HAQ := Lib.hid (HA.out.keep ((Touch.refl [] _).drewN nq))
        go_wp2_with fail
        refine (net_lenN HAQ.out rfl).mono ?_
        rintro e wz ⟨rfl, rfl⟩
        go_wp2_with fail
        unfold WI Wmu
        refine ⟨?rel, ?measure⟩
        case rel =>
          (repeat apply Exists.intro)
          refine ⟨?_, rfl⟩
          unfold Rel5
          exact ⟨k + 1, L, by omega, by go_num, HAQ.out, by have := HL.out; omega, HBL.out⟩
        case measure =>
          show xs.length - (intOf (.int .i64 ((k : Int) + 1))).toNat < xs.length - (intOf (.int .i64 (k : Int))).toNat
          simp [intOf]
          omega
end Go.Proofs.Ytaklbobmbobcaaa
