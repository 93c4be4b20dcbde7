/- The cases of a round of NetPlays: the definitions that they share. Conditions: none of their own. -/
import Derived.Test.YtaklbobmbobcaaaJ
import Derived.Test.YtaklbobmbobcaaaM
import Derived.Deep.CutRange
import Derived.BigQuiet
import Derived.IntWalk
import Derived.Deep.QuietTactic
namespace Go.Proofs.Ytaklbobmbobcaaa
open Go.RowKit

set_option maxRecDepth 100000 in
theorem net_many (a0 : Option Addr) (cap : Nat) (xs : List Act3) (w : World) (hl : 60 < xs.length) :
    Calls Try.prog 4 #[.slice a0 xs.length cap] w fun e w' => e = .returned (.bool true) ∧ Below w.heap.size w w' := by
  go_enter Try.func4, Try.ntmps4
  go_wp2_with fail
  refine (known_any _).mono ?_
  rintro e w1 ⟨rfl, hb⟩
  go_wp2_with fail
  go_ret
  exact ⟨rfl, hb.below (Nat.le_refl _) (by simp)⟩

theorem small_L {n k m i : Nat} (h : n ≤ 2 * k) (hk : k ≤ m) (hm : m ≤ 60) (hi : i < n) : i + (n - (i + 1)) ≤ maxLen ∧ (i + (n - (i + 1))) * 16 ≤ 140737488355328 := by unfold maxLen; omega
theorem small_M {n k m : Nat} (h : n ≤ 2 * k) (hk : k ≤ m) (hm : m ≤ 60) : n + 1 ≤ maxLen ∧ (n + 1) * 16 ≤ 140737488355328 := by unfold maxLen; omega
theorem small_N {n k m : Nat} (h : n ≤ 2 * k) (hk : k ≤ m) (hm : m ≤ 60) : n + 2 ≤ maxLen ∧ (n + 2) * 16 ≤ 140737488355328 := by unfold maxLen; omega
theorem NetB.text {w wr : World} {q n : Nat} {L M : List (List UInt8)} {v bv : Value} (h : NetB w wr q L M v bv n) : Sl wr 9 1 v M.length (sv M) :=
  let ⟨_, _, _, _, _, _, h1, _⟩ := h
  h1
/-- The place that an act asks for. -/
def placeOf (what n : Int) : Int := if 0 < what / 8 % 4 then Int.tmod n 5 else n
theorem tmod5 (n : Int) : -5 < Int.tmod n 5 ∧ Int.tmod n 5 < 5 := by
  have h1 := Int.tmod_lt_of_pos n (show (0 : Int) < 5 by decide)
  have h2 := Int.lt_tmod_of_pos n (show (0 : Int) < 5 by decide)
  omega

/-- The first loop of a code. -/
def firstLoop : Code → Option Code
  | .loop c => some c
  | .seq a b => match firstLoop a with
    | some c => some c
    | none => firstLoop b
  | .block _ c => firstLoop c
  | .scope c => firstLoop c
  | .cond _ a b => match firstLoop a with
    | some c => some c
    | none => firstLoop b
  | _ => none
noncomputable def body : Code := ((Try.f4.body.bind firstLoop).getD .skip)
/-- What holds at the head of each round. -/
def Rel5 (w : World) (q : Nat) (xs : List Act3) (s4 s5 : Value) (wr : World) : Prop :=
  ∃ (k : Nat) (L : List (List UInt8)), k ≤ xs.length ∧ s5 = .int .i64 (k : Int) ∧ NetAt w wr q L L s4 ∧ L.length ≤ 2 * k ∧ ∀ b ∈ L, b.length ≤ 50
set_option maxRecDepth 1000000 in
def WI (w : World) (q : Nat) (a0 : Option Addr) (cap : Nat) (xs : List Act3) (a : Act) (wr : World) : Prop :=
  ∃ u1 u2 u4 u5 u6 u7 u8 u9 u10 u11 u12 u13 u14 u15 u16 u17 u18 u19 u20 u21 u22 u23 u24 u25 u26 u27 u28 u29 u30 u31 u32 u33 u34 u35 u36 u37 u38 u39 u40 u41 u42 u43 u44 u45 u46 u47 u48 u49 u50 u51 u52 u53 u54 u55 u56 u57 u58 u59 u60 u61 u62 u63 u64 u65 u66 u67 u68 u69 u70 u71 u72 u73 u74 u75 u76 u77 u78 u79 u80 u81 u82 u83 u84 u85 u86 u87 u88 u89 u90 u91 u92 u93 u94 u95 u96 u97 u98 u99 u100 u101 u102 u103 u104 u105 u106 u107 u108 u109 u110 u111 u112 u113 u114 u115 u116 u117 u118 u119 u120 u121 u122 u123 u124 u125 u126 u127 u128 u129 u130 u131 u132 u133 u134 u135 u136 u137 u138 u139 u140 u141 u142 u143 u144 u145 u146 u147 u148 u149 u150 u151 u152 u153 u154 u155 u156 u157 u158 u159 u160 u161 u162 u163 u164 u165 u166 u167 u168 u169 u170 u171 u172 u173 u174 u175 u176 u177 u178 u179 u180 u181 u182 u183 u184 : Value, Rel5 w q xs u4 u5 wr ∧ a = ⟨#[.slice a0 xs.length cap, u1, u2, .pointer (some ⟨q, 0, none⟩), u4, u5, u6, u7, u8, u9, u10, u11, u12, u13, u14, u15, u16, u17, u18, u19, u20, u21, u22, u23, u24, u25, u26, u27, u28, u29, u30, u31, u32, u33, u34, u35, u36, u37, u38, u39, u40, u41, u42, u43, u44, u45, u46, u47, u48, u49, u50, u51, u52, u53, u54, u55, u56, u57, u58, u59, u60, u61, u62, u63, u64, u65, u66, u67, u68, u69, u70, u71, u72, u73, u74, u75, u76, u77, u78, u79, u80, u81, u82, u83, u84, u85, u86, u87, u88, u89, u90, u91, u92, u93, u94, u95, u96, u97, u98, u99, u100, u101, u102, u103, u104, u105, u106, u107, u108, u109, u110, u111, u112, u113, u114, u115, u116, u117, u118, u119, u120, u121, u122, u123, u124, u125, u126, u127, u128, u129, u130, u131, u132, u133, u134, u135, u136, u137, u138, u139, u140, u141, u142, u143, u144, u145, u146, u147, u148, u149, u150, u151, u152, u153, u154, u155, u156, u157, u158, u159, u160, u161, u162, u163, u164, u165, u166, u167, u168, u169, u170, u171, u172, u173, u174, u175, u176, u177, u178, u179, u180, u181, u182, u183, u184], []⟩
def Wmu (xs : List Act3) (a : Act) (_ : World) : Nat := xs.length - (intOf (a.tmps.getD 5 undef)).toNat
end Go.Proofs.Ytaklbobmbobcaaa
