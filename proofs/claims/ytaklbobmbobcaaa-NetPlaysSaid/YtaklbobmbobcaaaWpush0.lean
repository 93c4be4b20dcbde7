/- A case of a round of NetPlays: push0. Conditions: as the walk has them. -/
import Derived.Test.YtaklbobmbobcaaaW0
namespace Go.Proofs.Ytaklbobmbobcaaa
open Go.RowKit
set_option linter.unusedVariables false

set_option maxRecDepth 1000000 in
set_option maxHeartbeats 8000000 in
theorem case_push0 {w wr : World} {q : Nat} {a0 : Option Addr} {cap : Nat} {xs : List Act3} {K1 : Act → World → Prop} {R : Ending → World → Prop} {k : Nat} {L : List (List UInt8)} {va : Option Addr} {vc : Nat}
    (hx0 : IsActs w a0 xs) (hl : xs.length ≤ 60) (hA : NetAt w wr q L L (.slice va L.length vc)) (hL : L.length ≤ 2 * k) (hB : ∀ b ∈ L, b.length ≤ 50) (hk : k ≤ xs.length) (hlt : k < xs.length)
    {what n : Int} {v : Value} {b : List UInt8} (hx : xs[k]? = some ⟨what, n, v, b⟩) (hb50 : b.length ≤ 50)
    (hd : what % 5 = 0)
    (u1 u2 u6 u7 u8 u9 u10 u11 u12 u13 u14 u15 u16 u17 u18 u19 u20 u21 u22 u23 u24 u25 u26 u27 u28 u29 u30 u31 u32 u33 u34 u35 u36 u37 u38 u39 u40 u41 u42 u43 u44 u45 u46 u47 u48 u49 u50 u51 u52 u53 u54 u55 u56 u57 u58 u59 u60 u61 u62 u63 u64 u65 u66 u67 u68 u69 u70 u71 u72 u73 u74 u75 u76 u77 u78 u79 u80 u81 u82 u83 u84 u85 u86 u87 u88 u89 u90 u91 u92 u93 u94 u95 u96 u97 u98 u99 u100 u101 u102 u103 u104 u105 u106 u107 u108 u109 u110 u111 u112 u113 u114 u115 u116 u117 u118 u119 u120 u121 u122 u123 u124 u125 u126 u127 u128 u129 u130 u131 u132 u133 u134 u135 u136 u137 u138 u139 u140 u141 u142 u143 u144 u145 u146 u147 u148 u149 u150 u151 u152 u153 u154 u155 u156 u157 u158 u159 u160 u161 u162 u163 u164 u165 u166 u167 u168 u169 u170 u171 u172 u173 u174 u175 u176 u177 u178 u179 u180 u181 u182 u183 u184 : Value) : Code.wp Try.prog body (Exit.then (fun a' w'' => WI w q a0 cap xs a' w'' ∧ Wmu xs a' w'' < Wmu xs ⟨#[.slice a0 xs.length cap, u1, u2, .pointer (some ⟨q, 0, none⟩), .slice va L.length vc, .int .i64 (k : Int), u6, u7, u8, u9, u10, u11, u12, u13, u14, u15, u16, u17, u18, u19, u20, u21, u22, u23, u24, u25, u26, u27, u28, u29, u30, u31, u32, u33, u34, u35, u36, u37, u38, u39, u40, u41, u42, u43, u44, u45, u46, u47, u48, u49, u50, u51, u52, u53, u54, u55, u56, u57, u58, u59, u60, u61, u62, u63, u64, u65, u66, u67, u68, u69, u70, u71, u72, u73, u74, u75, u76, u77, u78, u79, u80, u81, u82, u83, u84, u85, u86, u87, u88, u89, u90, u91, u92, u93, u94, u95, u96, u97, u98, u99, u100, u101, u102, u103, u104, u105, u106, u107, u108, u109, u110, u111, u112, u113, u114, u115, u116, u117, u118, u119, u120, u121, u122, u123, u124, u125, u126, u127, u128, u129, u130, u131, u132, u133, u134, u135, u136, u137, u138, u139, u140, u141, u142, u143, u144, u145, u146, u147, u148, u149, u150, u151, u152, u153, u154, u155, u156, u157, u158, u159, u160, u161, u162, u163, u164, u165, u166, u167, u168, u169, u170, u171, u172, u173, u174, u175, u176, u177, u178, u179, u180, u181, u182, u183, u184], []⟩ wr) (Exit.inBlock 0 (Exit.then K1 (bodyPost Try.prog Try.f4 R)))) ⟨#[.slice a0 xs.length cap, u1, u2, .pointer (some ⟨q, 0, none⟩), .slice va L.length vc, .int .i64 (k : Int), u6, u7, u8, u9, u10, u11, u12, u13, u14, u15, u16, u17, u18, u19, u20, u21, u22, u23, u24, u25, u26, u27, u28, u29, u30, u31, u32, u33, u34, u35, u36, u37, u38, u39, u40, u41, u42, u43, u44, u45, u46, u47, u48, u49, u50, u51, u52, u53, u54, u55, u56, u57, u58, u59, u60, u61, u62, u63, u64, u65, u66, u67, u68, u69, u70, u71, u72, u73, u74, u75, u76, u77, u78, u79, u80, u81, u82, u83, u84, u85, u86, u87, u88, u89, u90, u91, u92, u93, u94, u95, u96, u97, u98, u99, u100, u101, u102, u103, u104, u105, u106, u107, u108, u109, u110, u111, u112, u113, u114, u115, u116, u117, u118, u119, u120, u121, u122, u123, u124, u125, u126, u127, u128, u129, u130, u131, u132, u133, u134, u135, u136, u137, u138, u139, u140, u141, u142, u143, u144, u145, u146, u147, u148, u149, u150, u151, u152, u153, u154, u155, u156, u157, u158, u159, u160, u161, u162, u163, u164, u165, u166, u167, u168, u169, u170, u171, u172, u173, u174, u175, u176, u177, u178, u179, u180, u181, u182, u183, u184], []⟩ wr := by
  conv => arg 2; whnf
  obtain ⟨j0, hj, hy0, hy1, hy2⟩ := info_parts info9
  obtain ⟨i0, hi, hz0, hz1, hz2⟩ := info_parts info5
  have HX := Lib.hid hx0
  have HA := Lib.hid hA
  have HL := Lib.hid hL
  have HBL := Lib.hid hB
  clear hx0 hA hL hB
  have hacts := HX.out.below HA.out.below
  rcases hacts with rfl | ⟨bb, off, rfl, hbl, hc⟩
  · simp at hlt
  obtain ⟨c0, c1, c2, hrd, hw, hn⟩ := hc k _ hx
  simp only at c0 c1 c2 hrd hw hn
  obtain ⟨av, cv, rfl⟩ := hrd.form
  have HR := Lib.hid hrd
  have HN := Lib.hid hn
  have HW := Lib.hid hw
  have hbl2 : bb < w.heap.size := by
    rcases HX.out with rfl | ⟨b', o', he, h1, _⟩
    · simp at hlt
    · simp at he
      omega
  have HBB := Lib.hid hbl2
  clear hc hx hrd hn hbl hbl2
  · have hq1 : Int.tdiv what 8 = what / 8 := Int.tdiv_eq_ediv_of_nonneg hw.1
    have hq2 : Int.tmod (what / 8) 4 = what / 8 % 4 := Int.tmod_eq_emod_of_nonneg (by omega)
    have hq3 : Int.tmod what 5 = what % 5 := Int.tmod_eq_emod_of_nonneg hw.1
    have htm := tmod5 n
    have HTM := Lib.hid htm
    have HQ3 := Lib.hid hq3
    clear htm hq3
    go_upto_if 43 with fail
    go_cut [6] from 18 to 184 (fun s6 wx => wx = wr ∧ s6 = .int .i64 (placeOf what n))
    case first =>
      by_cases h8 : 0 < what / 8 % 4
      · have hp : placeOf what n = Int.tmod n 5 := by simp [placeOf, h8]
        have HP := Lib.hid hp
        clear hp
        go_wp2_with fail
        go_meet
        exact ⟨rfl, by rw [HP.out]⟩
      · have hp : placeOf what n = n := by simp [placeOf, h8]
        have HP := Lib.hid hp
        clear hp
        go_wp2_with fail
        go_meet
        exact ⟨rfl, by rw [HP.out]⟩
    case rest =>
      obtain ⟨hwc, rfl⟩ := hcut
      subst hwc
      obtain ⟨wr, rfl⟩ : ∃ w' : World, w' = wc := ⟨_, rfl⟩
      have hκ : -9223372036854775808 ≤ placeOf what n ∧ placeOf what n ≤ 9223372036854775807 := by
        have h1 := HN.out
        have h2 := HTM.out
        unfold placeOf
        split <;> omega
      generalize placeOf what n = κ at *
      have HK := Lib.hid hκ
      have hL2 : (L.length : Int) ≤ 120 := by have := HL.out; omega
      clear hκ hq1 hq2
      go_upto_region 15 with fail
      go_cut [7] from 18 to 184 (fun s7 wx => wx = wr ∧ s7 = .bool (hasB κ L.length))
      case first =>
        by_cases h0 : 0 ≤ κ
        · have h0' : decide (0 ≤ κ) = true := by simpa using h0
          go_wp2_with fail
          go_meet
          exact ⟨rfl, by simp [hasB, h0']⟩
        · have h0' : decide (0 ≤ κ) = false := by simpa using h0
          go_wp2_with fail
          go_meet
          exact ⟨rfl, by simp [hasB, h0']⟩
      case rest =>
        obtain ⟨hwc, rfl⟩ := hcut
        subst hwc
        obtain ⟨wr, rfl⟩ : ∃ w' : World, w' = wc := ⟨_, rfl⟩
        have HAD := Lib.hid (HA.out.keep ((Touch.refl [] _).drew))
        have hq0 : Int.tmod what 5 = 0 := HQ3.out.trans hd
        clear hd
        go_wp2_with (at_builtin; refine wpList_append_sl _ rfl (.const (.slice none 0 0)) (.tmp 85) 26 rfl 5 i0 (.int .u8 0) 1 1 Try.underlying26 hi hz0 hz1 hz2 rfl (by decide) (.slice none 0 0) 0 [] rfl (Sl.nil _ _ _) (.slice av b.length cv) b.length (cb b) rfl HR.out (cb_one _) (pipe_small (by omega)) (pipe_small2 (by omega)) ?_; intro a' c' w3 g1 g2 g3 g4; have G1 := Lib.hid g1; have G2 := Lib.hid g2; have G3 := Lib.hid g3; have c0' := g2.cell c0 (by simp); have b0' : bb < w3.heap.size := World.block_lt_of_cell? _ _ c0'; clear g1 g2 g3 g4)
        have S3 : Sl w3 5 1 (.slice a' b.length c') b.length (cb b) := by have := G1.out; simpa using this
        have O3 : ∀ g ∈ own (.slice a' b.length c'), wr.heap.size ≤ g := by have := G3.out; simpa using this
        have hsz3 := G2.out.size
        have hT3 : Touch [] wr ((w3.alloc (.cells #[.int .u8 what] 5)).alloc (.cells #[.slice a' b.length c', .slice (some ⟨w3.heap.size, 0, none⟩) 1 1] 26)) := (G2.out.alloc _).alloc _
        obtain ⟨d, hd⟩ : ∃ d, [UInt8.ofNat what.toNat] = d := ⟨_, rfl⟩
        have hcd : cb d = [.int .u8 what] := by rw [← hd]; exact byte_cb what HW.out
        have hdl : d.length = 1 := by rw [← hd]; rfl
        have R3 : Rd ((w3.alloc (.cells #[.int .u8 what] 5)).alloc (.cells #[.slice a' b.length c', .slice (some ⟨w3.heap.size, 0, none⟩) 1 1] 26)) 1 (.slice (some ⟨w3.heap.size, 0, none⟩) 1 1) d.length (cb d) := by rw [hcd, hdl]; exact (one_rd w3 5 _).touch ((Touch.refl [] _).alloc _) (by simp)
        refine (net_push2 HA.out hT3 (S3.touch (((Touch.refl [] _).alloc _).alloc _) (by simp)) O3 R3 (by simp [own]; exact hsz3) (rd_at (w3.alloc (.cells #[.int .u8 what] 5)) [.slice a' b.length c', .slice (some ⟨w3.heap.size, 0, none⟩) 1 1] (by simp) 26) (by simp [own]; omega) (by have := HL.out; omega) (by omega) (by omega)).mono ?_
        rintro e w4 ⟨rfl, hS4, hNB⟩
        have NB := Lib.hid hNB
        have c0'' : w4.cell? ⟨bb, off + k * 3, none⟩ = some (.int .u8 what) := by rw [(bcell hNB.net.below).1 _ _ HBB.out, ← (bcell HA.out.below).1 _ _ HBB.out]; exact c0
        have b0'' : bb < w4.heap.size := World.block_lt_of_cell? _ _ c0''
        have kA1 : (convert 26 9 (.slice a' b.length c')).run Try.prog w4.drew = .ok (.string (str b)) w4.drew := conv_str _ _ b (hS4.rd.touch ((Touch.refl [] _).drew) (by simp))
        have kA2 : (convert 26 9 (.slice a' b.length c')).run Try.prog (w4.alloc (.cells #[.int .u8 what] 5)).drew = .ok (.string (str b)) (w4.alloc (.cells #[.int .u8 what] 5)).drew := conv_str _ _ b (hS4.rd.touch (((Touch.refl [] _).alloc _).drew) (by simp))
        have kB : (convert 26 9 (.slice (some ⟨w4.heap.size, 0, none⟩) 1 1)).run Try.prog (w4.alloc (.cells #[.int .u8 what] 5)).drew = .ok (.string (str d)) (w4.alloc (.cells #[.int .u8 what] 5)).drew := by
          have := conv_str (w4.alloc (.cells #[.int .u8 what] 5)).drew (.slice (some ⟨w4.heap.size, 0, none⟩) 1 1) d (by rw [hcd, hdl]; exact (one_rd w4 5 _).touch ((Touch.refl [] _).drew) (by simp))
          exact this
        have NW := Lib.hid (hNB.keep ((((Touch.refl [] _).alloc (.cells #[.int .u8 what] 5)).alloc (.cells #[.string (str b), .string (str d)] 9)).drew))
        have RW := Lib.hid ((rd_at (w4.alloc (.cells #[.int .u8 what] 5)) [.string (str b), .string (str d)] (n := w4.heap.size + 1) (by simp) 9).touch ((Touch.refl [] _).drew) (by simp))
        have HDL := Lib.hid (show d.length ≤ 50 from by omega)
        clear S3 O3 hsz3 hT3 R3 hS4 hNB G1 G2 G3 c0 c1 c2 c0' b0' hd hcd hdl
        go_upto_region 25 with fail
        go_cut [4] from 18 to 184 (fun s4 wx => ∃ a2 c2, s4 = .slice a2 (L.length + 2) c2 ∧ NetB w wx q (L ++ [b, d]) (L ++ [b, d]) (.slice a2 (L.length + 2) c2) (.slice a' b.length c') b.length)
        case first =>
          go_region_law (refine step_append_sl _ rfl (.tmp 97) (.tmp 107) 35 rfl 9 j0 (.string ByteArray.empty) 1 16 Try.underlying35 hj hy0 hy1 hy2 rfl (by decide) (.slice va L.length vc) L.length (sv L) (by simp [Act.eval]) NW.out.text (.slice (some ⟨w4.heap.size + 1, 0, none⟩) 2 2) 2 [.string (str b), .string (str d)] (by simp [Act.eval]) RW.out (sv_one [b, d]) (small_N HL.out hk hl).1 (small_N HL.out hk hl).2 ?_; intro a2 c2 w5 k1 k2 k3 k4; have K1 := Lib.hid k1; have K2 := Lib.hid k2; have K3 := Lib.hid k3; clear k1 k2 k3 k4)
          all_goals
            go_wp2_with fail
            go_meet
            exact ⟨_, _, rfl, NetB.more (D := [b, d]) NW.out K1.out K2.out K3.out⟩
        case rest =>
          obtain ⟨a2, c2, rfl, hNB⟩ := hcut
          have NB5 := Lib.hid hNB
          have hbm : (b.length : Int) ≤ 9223372036854775807 := by omega
          clear hNB kA1 kA2 kB c0'' b0''
          go_wp2_with fail
          obtain ⟨wo, rfl⟩ : ∃ wo : World, wo = wr := ⟨_, rfl⟩
          go_loopw [9] (fun i wq => ∃ j : Nat, j ≤ b.length ∧ i = .int .i64 (j : Int) ∧ NetB w wq q (L ++ [b, d]) (L ++ [b, d]) (.slice a2 (L.length + 2) c2) (.slice a' b.length c') b.length) (fun i _ => b.length - (intOf i).toNat)
          case atStart => exact ⟨0, by omega, rfl, NB5.out⟩
          case round =>
            obtain ⟨j, hj2, rfl, hQ⟩ := hrel
            have HQ := Lib.hid hQ
            clear hQ
            by_cases hjl : j < b.length
            · obtain ⟨g, o, rfl⟩ := HQ.out.lies (by omega)
              obtain ⟨⟨y, c3⟩, f3⟩ := HQ.out.cell j hjl
              go_wp2_with fail
              go_roundw
              case rel => exact ⟨j + 1, by omega, by go_num, HQ.out.set j hjl _⟩
              case measure => simp [intOf]; omega
            · obtain rfl : j = b.length := by omega
              have AQ := Lib.hid HQ.out.net
              go_wp2_with fail
              refine (net_lenN AQ.out (n := L.length + 2) (by simp)).mono ?_
              rintro e wz ⟨rfl, rfl⟩
              go_wp2_with fail
              unfold WI Wmu
              refine ⟨?rel, ?measure⟩
              case rel =>
                (repeat apply Exists.intro)
                refine ⟨?_, rfl⟩
                unfold Rel5
                exact ⟨k + 1, L ++ [b, d], by omega, by go_num, AQ.out, by have := HL.out; simp; omega, by have := lens_app (lens_app HBL.out hb50) HDL.out; simpa using this⟩
              case measure =>
                show xs.length - (intOf (.int .i64 ((k : Int) + 1))).toNat < xs.length - (intOf (.int .i64 (k : Int))).toNat
                simp [intOf]
                omega
end Go.Proofs.Ytaklbobmbobcaaa
