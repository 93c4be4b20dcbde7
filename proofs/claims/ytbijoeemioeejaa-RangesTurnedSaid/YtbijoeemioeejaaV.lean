/- The walk of the statement on turned orders. Conditions: none. -/
import Derived.Test.YtbijoeemioeejaaZ
namespace Go.Proofs.Ytbijoeemioeejaa
open Go.RowKit

/-- The numbers, turned. -/
def rot (l : List Nat) (t : Nat) : List Nat := (List.range l.length).map fun i => l.getD ((i + t) % l.length) 0
theorem rot_len (l : List Nat) (t : Nat) : (rot l t).length = l.length := by simp [rot]
theorem rot_at (l : List Nat) (t k : Nat) (h : k < l.length) : (rot l t)[k]? = l[(k + t) % l.length]? := by
  have h2 : (k + t) % l.length < l.length := Nat.mod_lt _ (by omega)
  unfold rot
  rw [List.getElem?_map, List.getElem?_range h]
  simp [List.getD_eq_getElem?_getD, h2]
theorem rot_mem (l : List Nat) (t x : Nat) : x ∈ rot l t ↔ x ∈ l := by
  constructor
  · intro h
    obtain ⟨k, hk, he⟩ := List.mem_iff_getElem.1 h
    rw [rot_len] at hk
    have := rot_at l t k hk
    rw [List.getElem?_eq_getElem (by rw [rot_len]; exact hk), he] at this
    exact List.mem_of_getElem? this.symm
  · intro h
    obtain ⟨j, hj, he⟩ := List.mem_iff_getElem.1 h
    have hp : 0 < l.length := by omega
    have hk : (j + (l.length - t % l.length)) % l.length < l.length := Nat.mod_lt _ hp
    have hm := Nat.mod_lt t hp
    have e1 : ((j + (l.length - t % l.length)) % l.length + t) % l.length = j := by
      rw [Nat.mod_add_mod]
      have e2 : j + (l.length - t % l.length) + t = j + l.length * (1 + t / l.length) := by
        have := Nat.div_add_mod t l.length
        rw [Nat.mul_add]
        omega
      rw [e2, Nat.add_mul_mod_self_left, Nat.mod_eq_of_lt hj]
    have := rot_at l t _ hk
    rw [e1, List.getElem?_eq_getElem hj, he] at this
    exact List.mem_of_getElem? this
theorem rot_same (l : List Nat) (t : Nat) : insL 0 (rot l t) [] = insL 0 l [] := by
  refine V.ext (insL_V _ (V.nil 0)) (insL_V _ (V.nil 0)) fun n => ?_
  rw [insL_mem _ (V.nil 0), insL_mem _ (V.nil 0), rot_mem]
theorem rev_gap {L : List Rng} {b k : Nat} {x y : Rng} (h : V L b) (hx : L.reverse[k]? = some x) (hy : L.reverse[k + 1]? = some y) : y.2 + 2 ≤ x.1 := by
  have hk : k + 1 < L.length := by have := (List.getElem?_eq_some_iff.1 hy).1; simpa using this
  rw [List.getElem?_reverse (by omega)] at hx hy
  obtain ⟨h1, e1⟩ := List.getElem?_eq_some_iff.1 hx
  obtain ⟨h2, e2⟩ := List.getElem?_eq_some_iff.1 hy
  have := List.pairwise_iff_getElem.1 h.1 _ _ h2 h1 (by omega)
  rw [e1, e2] at this
  omega
theorem cnt_rev (L : List Rng) : cnt L.reverse = cnt L := by
  unfold cnt
  rw [List.map_reverse, List.sum_reverse]

set_option maxRecDepth 100000 in
set_option maxHeartbeats 4000000 in
theorem turned_walk (a : Option Addr) (n c t : Nat) (l : List Nat) (w : World) (hl : Rd w 1 (.slice a n c) n (bs l)) (hn : l.length = n) (hb : ∀ x ∈ l, x < 256) (ht : t < 256) (h60 : n ≤ 60) :
    Calls Try.prog 4 #[.slice a n c, .int .u8 (t : Int)] w fun e w' => e = .returned (.bool true) ∧ Touch [] w w' := by
  have HL := Lib.hid hl
  have HN := Lib.hid hn
  have HX := Lib.hid hb
  clear hl hn hb
  have h60' : ¬ (60 : Int) < (n : Int) := by omega
  go_enter Try.func4, Try.ntmps4
  go_wp2_with fail
  refine (known_any _).mono ?_
  rintro e w1 ⟨rfl, hT⟩
  have HT1 := Lib.hid hT
  clear hT
  go_wp2_with fail
  refine (new_any _).mono ?_
  rintro e w2 ⟨rfl, rfl⟩
  go_wp2_with fail
  refine (new_any _).mono ?_
  rintro e w2 ⟨rfl, rfl⟩
  obtain ⟨s, hs⟩ : ∃ s, s = w1.heap.size := ⟨_, rfl⟩
  obtain ⟨W, hW⟩ : ∃ W, W = (w1.alloc (.cells #[.slice none 0 0, .int .u64 0] 50)).alloc (.cells #[.slice none 0 0, .int .u64 0] 50) := ⟨_, rfl⟩
  have HB : Hid (Two w1 W [] s 50 [] 0 (s + 1) 50 [] 0) := Lib.hid (by rw [hs, hW]; exact Two.new w1 50 50)
  rw [← hW]
  simp only [World.size_alloc]
  rw [← hs]
  clear hs hW
  go_upto_block 0 with (fail)
  go_cut [] (fun wx => Two w1 wx [] s 50 (insL 0 l []) 0 (s + 1) 50 (insL 0 (rot l t) []) 0)
  case first =>
    go_wp2_with fail
    go_loopw [7] (fun i wr => ∃ k : Nat, k ≤ n ∧ i = .int .i64 (k : Int) ∧ Hid (Two w1 wr [] s 50 (insL 0 (l.take k) []) 0 (s + 1) 50 (insL 0 ((rot l t).take k) []) 0)) (fun i _ => n - (intOf i).toNat)
    case atStart => exact ⟨0, by omega, by simp, HB⟩
    case round =>
      obtain ⟨k, hk, rfl, HJ⟩ := hrel
      by_cases hlt : k < n
      · have hlt' : (k : Int) < (n : Int) := by omega
        obtain ⟨x, hx⟩ : ∃ x, l[k]? = some x := ⟨_, List.getElem?_eq_getElem (by have := HN.out; omega)⟩
        obtain ⟨j, hj⟩ : ∃ j, j = (k + t) % n := ⟨_, rfl⟩
        have hjn : j < n := by rw [hj]; exact Nat.mod_lt _ (by omega)
        obtain ⟨y, hy⟩ : ∃ y, l[j]? = some y := ⟨_, List.getElem?_eq_getElem (by have := HN.out; omega)⟩
        have HRA : Hid ((rot l t)[k]? = some y) := Lib.hid (by rw [rot_at l t k (by have := HN.out; omega), HN.out, ← hj]; exact hy)
        have HJI : ((k : Int) + (t : Int)) % (n : Int) = (j : Int) := by rw [hj, Int.natCast_emod, Int.natCast_add]
        have HI1 := Lib.hid (insL_snoc 0 l [] k x hx)
        have HI2 := Lib.hid (insL_snoc 0 (rot l t) [] k y HRA.out)
        have hl1 := insL_len 0 (l.take k) []
        have hl2 := insL_len 0 ((rot l t).take k) []
        rw [List.length_take] at hl1 hl2
        simp only [List.length_nil] at hl1 hl2
        obtain ⟨g, o, rfl, e1, hg⟩ := rd_byte (HL.out.touch (HT1.out.trans HJ.out.base (by simp)) (by simp)) HN.out k x hx
        have hx256 := HX.out x (List.mem_of_getElem? hx)
        have hy256 := HX.out y (List.mem_of_getElem? hy)
        have HRX : Hid (Rd (wr.alloc (.cells #[.int .u64 (x : Int)] 28)) 1 (.slice (Option.some ⟨wr.heap.size, 0, none⟩) 1 1) 1 (us [x])) := Lib.hid (rd_us wr [x])
        have HY := Lib.hid hy
        have HJ0 := Lib.hid hj
        clear hx hy hj
        go_wp2_with fail
        refine ((HJ.out.alloc _).add [x] HRX.out (by intro g hg; rw [(mem_own hg).1]; simp) rfl (by omega) (by simp; omega)).mono ?_
        rintro e w3 ⟨rfl, hB, _⟩
        rw [ins_one] at hB
        have HB3 := Lib.hid (hB.less (J := []) (by simp))
        clear hB e1 hg
        obtain ⟨g', o', he', e2, hg'⟩ := rd_byte (HL.out.touch (HT1.out.trans HB3.out.base (by simp)) (by simp)) HN.out j y HY.out
        simp at he'
        obtain ⟨rfl, rfl⟩ := he'
        have HRY : Hid (Rd (w3.alloc (.cells #[.int .u64 (y : Int)] 28)) 1 (.slice (Option.some ⟨w3.heap.size, 0, none⟩) 1 1) 1 (us [y])) := Lib.hid (rd_us w3 [y])
        have hjn' : (j : Int) < (n : Int) := by omega
        go_wp2_with fail
        refine ((HB3.out.alloc _).symm.add [y] HRY.out (by intro g hg; rw [(mem_own hg).1]; simp) rfl (by omega) (by simp; omega)).mono ?_
        rintro e w4 ⟨rfl, hB, _⟩
        rw [ins_one] at hB
        have HB4 := Lib.hid (hB.symm.less (J := []) (by simp))
        clear hB
        go_wp2_with fail
        go_roundw
        case rel => exact ⟨k + 1, by omega, by go_num, Lib.hid (by rw [HI1.out, HI2.out]; exact HB4.out)⟩
        case measure => simp [intOf]; omega
      · obtain rfl : k = n := by omega
        go_wp2_with fail
        go_meet
        case rel =>
          have h1 := HJ.out
          rw [List.take_of_length_le (by have := HN.out; omega), List.take_of_length_le (by rw [rot_len]; have := HN.out; omega)] at h1
          exact h1
  case rest =>
    rw [rot_same] at hcut
    have hll := insL_len 0 l []
    simp only [List.length_nil, Nat.zero_add] at hll
    have hll2 : (insL 0 l []).length ≤ 60 := by have := HN.out; omega
    generalize insL 0 l [] = L at *
    have HC := Lib.hid hcut
    have hV := hcut.ptr.1
    have HR200 : Hid (L.reverse.take (200 : Int).toNat = L.reverse) := Lib.hid (List.take_of_length_le (by simp; omega))
    have HG : Hid (∀ k x y, L.reverse[k]? = some x → L.reverse[k + 1]? = some y → y.2 + 2 ≤ x.1) := Lib.hid fun k x y hx hy => rev_gap hV hx hy
    have HVM : Hid (∀ x ∈ L.reverse, x.1 ≤ x.2 ∧ x.2 ≤ 4611686018427387903) := Lib.hid fun x hx => ⟨(hV.2 x (by simpa using hx)).2.1, (hV.2 x (by simpa using hx)).2.2⟩
    have HCR : Hid (cnt L.reverse = cnt L) := Lib.hid (cnt_rev L)
    have HCL : Hid (cnt L ≤ 4611686018427387904) := Lib.hid (by have := cnt_le L 0 0 hV (by simp) (by unfold mx; omega); unfold mx at this; omega)
    clear hcut hV hll
    go_wp2_with fail
    refine (HC.out.ranges 200 (by omega)).mono ?_
    rw [HR200.out]
    rintro e w3 ⟨v, rfl, k1, k2, _⟩
    obtain ⟨va, vc, hve⟩ := k1.form
    have hrl : L.reverse.length = L.length := by simp
    generalize hR : L.reverse = R at *
    subst hve
    have HV := Lib.hid k1
    have HC3 := Lib.hid (HC.out.keep k2)
    have HRR := Lib.hid hR
    have hRn : R.length ≤ 60 := by omega
    clear k1 k2 hR hrl
    go_wp2_with fail
    go_loopw [9] (fun i wr => ∃ m : Nat, m ≤ R.length ∧ i = .int .i64 ((m : Int) + 1) ∧ Touch [] w3 wr) (fun i _ => R.length + 1 - (intOf i).toNat)
    case atStart => exact ⟨0, by omega, rfl, Touch.refl _ _⟩
    case round =>
      obtain ⟨m, hm, rfl, hT⟩ := hrel
      have HT := Lib.hid hT
      clear hT
      by_cases hlt : m + 1 < R.length
      · have hlt' : (m : Int) + 1 < (R.length : Int) := by omega
        have hlt0 : (m : Int) < (R.length : Int) := by omega
        have t52 : decide ((m : Int) + 1 < (R.length : Int)) = true := by simpa using hlt'
        obtain ⟨x, hx⟩ : ∃ x, R[m + 1]? = some x := ⟨_, List.getElem?_eq_getElem hlt⟩
        obtain ⟨y, hy⟩ : ∃ y, R[m]? = some y := ⟨_, List.getElem?_eq_getElem (by omega)⟩
        obtain ⟨g, o, rfl⟩ := HV.out.some (by omega)
        obtain ⟨c1, c2, hg⟩ := (HV.out.touch HT.out (by simp)).two rfl (m + 1) x hx
        obtain ⟨c3, c4, _⟩ := (HV.out.touch HT.out (by simp)).two rfl m y hy
        have hgap := HG.out m y x hy hx
        have hxm := (HVM.out x (List.mem_of_getElem? hx)).2
        have hym := (HVM.out y (List.mem_of_getElem? hy))
        obtain ⟨x1, x2⟩ := x
        obtain ⟨y1, y2⟩ := y
        simp only at c1 c2 c3 c4 hgap hxm hym
        have t67 : decide ((y1 : Int) < (x2 : Int) + 2) = false := by simp; omega
        have i67 : ¬ (y1 : Int) < (x2 : Int) + 2 := by omega
        have hx2 : x2 ≤ 4611686018427387903 := hxm
        clear hx hy hym
        go_wp2_with fail
        go_quiet (fail)
        go_wp2_with fail
        go_roundw
        case rel => exact ⟨m + 1, by omega, by go_num, HT.out.drewN _⟩
        case measure => simp [intOf]; omega
      · have hge : ¬ (m : Int) + 1 < (R.length : Int) := by omega
        have HV4 := Lib.hid (HV.out.touch HT.out (by simp))
        have HC4 := Lib.hid (HC3.out.keep HT.out)
        go_wp2_with fail
        go_loopw [11, 10] (fun i u w5 => ∃ k : Nat, k ≤ R.length ∧ i = .int .i64 (k : Int) ∧ u = .int .u64 (cnt (R.take k) : Int) ∧ Touch [] wr w5) (fun i _ _ => R.length - (intOf i).toNat)
        case atStart => exact ⟨0, by omega, rfl, rfl, Touch.refl _ _⟩
        case round =>
          obtain ⟨k, hk, rfl, rfl, hT5⟩ := hrel
          have HT5 := Lib.hid hT5
          clear hT5
          by_cases hlk : k < R.length
          · obtain ⟨x, hx⟩ : ∃ x, R[k]? = some x := ⟨_, List.getElem?_eq_getElem hlk⟩
            obtain ⟨g, o, rfl⟩ := HV4.out.some (by omega)
            obtain ⟨c1, c2, hg⟩ := (HV4.out.touch HT5.out (by simp)).two rfl k x hx
            have hsz := cnt_take R k x hx
            have hle := cnt_take_le R (k + 1)
            have hvx := HVM.out x (List.mem_of_getElem? hx)
            have hmx : cnt R ≤ 4611686018427387904 := by have := HCL.out; have := HCR.out; omega
            obtain ⟨x1, x2⟩ := x
            simp only at c1 c2 hsz hvx
            obtain ⟨m, hm⟩ : ∃ m, cnt (R.take k) = m := ⟨_, rfl⟩
            rw [hm] at hsz ⊢
            have hb1 : m + (x2 - x1 + 1) ≤ 4611686018427387904 := by omega
            have hb2 : x1 ≤ x2 := hvx.1
            have hb3 : x2 ≤ 4611686018427387903 := hvx.2
            have HSZ2 := Lib.hid hsz
            have hlk' : (k : Int) < (R.length : Int) := by omega
            clear hx hsz hle hm hvx hmx
            go_wp2_with fail
            go_quiet (fail)
            go_wp2_with fail
            go_roundw
            case rel => exact ⟨k + 1, by omega, by go_num, by rw [HSZ2.out]; go_num, HT5.out.drewN _⟩
            case measure => simp [intOf]; omega
          · obtain rfl : k = R.length := by omega
            have HC5 := Lib.hid (HC4.out.keep HT5.out)
            have HV5 := Lib.hid (HV4.out.touch HT5.out (by simp))
            rw [List.take_length]
            obtain ⟨u, hu⟩ : ∃ u, u = cnt R := ⟨_, rfl⟩
            rw [← hu]
            have HU : Hid (cnt L = u) := Lib.hid (by rw [hu, HCR.out])
            clear hu
            go_wp2_with fail
            refine (HC5.out.symm.ranges 200 (by omega)).mono ?_
            rw [HRR.out, HR200.out]
            rintro e w6 ⟨v2, rfl, k1, k2, _⟩
            have HV2 := Lib.hid k1
            have HV6 := Lib.hid (HV5.out.touch k2 (by simp))
            have HC6 := Lib.hid (HC5.out.keep k2)
            clear k1 k2
            go_wp2_with fail
            refine (alike_same _ _ _ R HV6.out HV2.out (by omega)).mono ?_
            rintro e w7 ⟨rfl, k⟩
            have HC7 := Lib.hid (HC6.out.keep k)
            clear k
            go_wp2_with fail
            refine (HC7.out.count).mono ?_
            rw [HU.out]
            rintro e w8 ⟨rfl, k⟩
            have HT8 := Lib.hid (HT1.out.trans (HC7.out.base.trans k (by simp)) (by simp))
            clear k
            go_wp2_with fail
            go_ret
            exact ⟨ret_b (by simp), HT8.out⟩

/-- Too many: nothing is said. -/
theorem turned_many (a : Option Addr) (n c t : Nat) (w : World) (h60 : 60 < n) :
    Calls Try.prog 4 #[.slice a n c, .int .u8 (t : Int)] w fun e w' => e = .returned (.bool true) ∧ Touch [] w w' := by
  have h60' : (60 : Int) < (n : Int) := by omega
  go_enter Try.func4, Try.ntmps4
  go_wp2_with fail
  refine (known_any _).mono ?_
  rintro e w1 ⟨rfl, hT⟩
  have HT1 := Lib.hid hT
  clear hT
  go_wp2_with fail
  go_ret
  exact ⟨rfl, HT1.out⟩
end Go.Proofs.Ytbijoeemioeejaa
