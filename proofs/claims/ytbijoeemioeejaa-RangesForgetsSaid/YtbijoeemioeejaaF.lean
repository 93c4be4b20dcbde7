/- The walk of the statement on what is forgotten. Conditions: none. -/
import Derived.Test.YtbijoeemioeejaaZ
import Derived.BigRegion
import Derived.Test.YtbijoeemioeejaaI
namespace Go.Proofs.Ytbijoeemioeejaa
open Go.RowKit

/-- Only what is at least b. -/
def above (b : Nat) (l : List Nat) : List Nat := l.filter fun x => decide (b ≤ x)
theorem above_snoc (b : Nat) (l : List Nat) (k x : Nat) (hx : l[k]? = some x) : above b (l.take (k + 1)) = above b (l.take k) ++ (if b ≤ x then [x] else []) := by
  unfold above
  rw [List.take_add_one, hx, List.filter_append]
  congr 1
  by_cases h : b ≤ x <;> simp [h]
theorem insL_append (b : Nat) (l m : List Nat) (L : List Rng) : insL b (l ++ m) L = insL b m (insL b l L) := by simp [insL]
/-- What is left of all is what was put in of the others. -/
theorem forget_same (l : List Nat) (b : Nat) (_ : ∀ x ∈ l, x ≤ mx) : fgt (insL 0 l []) (max 0 b) = insL 0 (above b l) [] := by
  rw [Nat.zero_max]
  have h1 := fgt_V (c := b) (insL_V l (V.nil 0))
  refine V.ext h1 (insL_V _ (V.nil 0)) fun n => ?_
  rw [fgt_mem, insL_mem _ (V.nil 0), insL_mem _ (V.nil 0)]
  simp only [above, List.mem_filter, decide_eq_true_eq]
  constructor
  · rintro ⟨h | h, h2⟩
    · exact absurd h (inR_nil n)
    · exact .inr ⟨⟨h.1, h2⟩, h.2.1, Nat.zero_le _⟩
  · rintro (h | h)
    · exact absurd h (inR_nil n)
    · exact ⟨.inr ⟨h.1.1, h.2.1, Nat.zero_le _⟩, h.1.2⟩
theorem has_ins {L : List Rng} {b : Nat} (h : V L b) (x : Nat) (hx : x ≤ mx) : hasB x (ins b L x) = decide (b ≤ x) := by
  rw [Bool.eq_iff_iff, hasB_iff, ins_mem h]
  simp only [decide_eq_true_eq]
  constructor
  · rintro (⟨y, hy, h1, h2⟩ | h2)
    · have := (h.2 y hy).1; omega
    · exact h2.2.2
  · intro h2
    exact .inr ⟨trivial, hx, h2⟩
theorem above_len (b : Nat) (l : List Nat) : (above b l).length ≤ l.length := List.length_filter_le _ _

set_option maxRecDepth 100000 in
set_option maxHeartbeats 16000000 in
theorem forgets_walk (a a2 : Option Addr) (n c n2 c2 bl : Nat) (l more : List Nat) (w : World) (hl : Rd w 1 (.slice a n c) n (bs l)) (hn : l.length = n) (hb : ∀ x ∈ l, x < 256) (hbl : bl < 256)
    (hl2 : Rd w 1 (.slice a2 n2 c2) n2 (bs more)) (hn2 : more.length = n2) (hb2 : ∀ x ∈ more, x < 256) (h40 : n ≤ 40) (h402 : n2 ≤ 40) :
    Calls Try.prog 5 #[.slice a n c, .int .u8 (bl : Int), .slice a2 n2 c2] w fun e w' => e = .returned (.bool true) ∧ Touch [] w w' := by
  have HL := Lib.hid hl
  have HN := Lib.hid hn
  have HX := Lib.hid hb
  have HL2 := Lib.hid hl2
  have HN2 := Lib.hid hn2
  have HX2 := Lib.hid hb2
  have HMX : Hid (mx = 4611686018427387903) := Lib.hid rfl
  clear hl hn hb hl2 hn2 hb2
  have h40' : ¬ (40 : Int) < (n : Int) := by omega
  have h402' : ¬ (40 : Int) < (n2 : Int) := by omega
  go_enter Try.func5, Try.ntmps5
  go_wp2_with fail
  refine (known_any _).mono ?_
  rintro e w1 ⟨rfl, hT⟩
  have HT1 := Lib.hid hT
  clear hT
  go_wp2_with fail
  refine (new_any _).mono ?_
  rintro e w2 ⟨rfl, rfl⟩
  obtain ⟨s, hs⟩ : ∃ s, s = w1.heap.size := ⟨_, rfl⟩
  obtain ⟨W, hW⟩ : ∃ W, W = (w1.alloc (.cells #[.slice none 0 0, .int .u64 0] 50)).alloc (.cells #[.slice none 0 0, .int .u64 0] 30) := ⟨_, rfl⟩
  have HB : Hid (Two w1 W [] s 50 [] 0 (s + 1) 30 [] 0) := Lib.hid (by rw [hs, hW]; exact Two.new w1 50 30)
  go_upto_block 0 with (fail)
  rw [← hW]
  try simp only [World.size_alloc]
  rw [← hs]
  clear hs hW
  go_cut [] (fun wx => Two w1 wx [] s 50 (insL 0 l []) 0 (s + 1) 30 (insL 0 (above bl l) []) 0)
  case first =>
    go_wp2_with fail
    go_loopw [9] (fun i wr => ∃ k : Nat, k ≤ n ∧ i = .int .i64 (k : Int) ∧ Hid (Two w1 wr [] s 50 (insL 0 (l.take k) []) 0 (s + 1) 30 (insL 0 (above bl (l.take k)) []) 0)) (fun i _ => n - (intOf i).toNat)
    case atStart => exact ⟨0, by omega, by simp, HB⟩
    case round =>
      obtain ⟨k, hk, rfl, HJ⟩ := hrel
      by_cases hlt : k < n
      · have hlt' : (k : Int) < (n : Int) := by omega
        obtain ⟨x, hx⟩ : ∃ x, l[k]? = some x := ⟨_, List.getElem?_eq_getElem (by have := HN.out; omega)⟩
        have HI1 := Lib.hid (insL_snoc 0 l [] k x hx)
        have HI2 := Lib.hid (above_snoc bl l k x hx)
        have hl1 := insL_len 0 (l.take k) []
        have hl2 := insL_len 0 (above bl (l.take k)) []
        have hl3 := above_len bl (l.take k)
        rw [List.length_take] at hl1 hl3
        simp only [List.length_nil] at hl1 hl2
        obtain ⟨g, o, rfl, e1, hg⟩ := rd_byte (HL.out.touch (HT1.out.trans HJ.out.base (by simp)) (by simp)) HN.out k x hx
        have hx256 := HX.out x (List.mem_of_getElem? hx)
        have HRX : Hid (Rd (wr.alloc (.cells #[.int .u64 (x : Int)] 28)) 1 (.slice (Option.some ⟨wr.heap.size, 0, none⟩) 1 1) 1 (us [x])) := Lib.hid (rd_us wr [x])
        have HXK := Lib.hid hx
        clear hx
        go_wp2_with fail
        refine ((HJ.out.alloc _).add [x] HRX.out (by intro g hg; rw [(mem_own hg).1]; simp) rfl (by omega) (by simp; omega)).mono ?_
        rintro e w3 ⟨rfl, hB, _⟩
        rw [ins_one] at hB
        have HB3 := Lib.hid (hB.less (J := []) (by simp))
        clear hB e1 hg
        obtain ⟨g', o', he', e2, hg'⟩ := rd_byte (HL.out.touch (HT1.out.trans HB3.out.base (by simp)) (by simp)) HN.out k x HXK.out
        simp at he'
        obtain ⟨rfl, rfl⟩ := he'
        by_cases hc : bl ≤ x
        · have hc' : (bl : Int) ≤ (x : Int) := by omega
          have HRY : Hid (Rd (w3.alloc (.cells #[.int .u64 (x : Int)] 28)) 1 (.slice (Option.some ⟨w3.heap.size, 0, none⟩) 1 1) 1 (us [x])) := Lib.hid (rd_us w3 [x])
          go_wp2_with fail
          refine ((HB3.out.alloc _).symm.addR [x] HRY.out (by intro g hg; rw [(mem_own hg).1]; simp) rfl (by omega) (by simp; omega)).mono ?_
          rintro e w4 ⟨rfl, hB, _⟩
          rw [ins_one] at hB
          have HB4 := Lib.hid (hB.symm.less (J := []) (by simp))
          clear hB
          go_wp2_with fail
          go_roundw
          case rel => exact ⟨k + 1, by omega, by go_num, Lib.hid (by rw [HI1.out, HI2.out, if_pos hc, insL_append]; exact HB4.out)⟩
          case measure => simp [intOf]; omega
        · have hc' : ¬ (bl : Int) ≤ (x : Int) := by omega
          go_wp2_with fail
          go_roundw
          case rel => exact ⟨k + 1, by omega, by go_num, Lib.hid (by rw [HI1.out, HI2.out, if_neg hc, List.append_nil]; exact HB3.out)⟩
          case measure => simp [intOf]; omega
      · obtain rfl : k = n := by omega
        go_wp2_with fail
        go_meet
        case rel =>
          have h1 := HJ.out
          rw [List.take_of_length_le (by have := HN.out; omega)] at h1
          exact h1
  case rest =>
    have HC := Lib.hid hcut
    have hll := insL_len 0 l []
    have hll2 := insL_len 0 (above bl l) []
    have hll3 := above_len bl l
    have HFS := Lib.hid (forget_same l bl (fun x hx => by have := HX.out x hx; have := HMX.out; omega))
    simp only [List.length_nil, Nat.zero_add] at hll hll2
    have hlq : l.length ≤ 40 := by have := HN.out; omega
    clear hcut
    go_wp2_with fail
    refine (HC.out.forget bl (by omega) (by have := HMX.out; omega)).mono ?_
    rw [HFS.out, Nat.zero_max]
    rintro e w3 ⟨rfl, hB, _⟩
    have hlP : (insL 0 (above bl l) []).length ≤ 40 := by omega
    generalize insL 0 (above bl l) [] = P0 at *
    have HB3 := Lib.hid hB
    clear hB hll hll2 hll3 hlq
    go_wp2_with fail
    go_loopw [10] (fun i wr => ∃ k : Nat, ∃ P : List Rng, k ≤ n2 ∧ i = .int .i64 (k : Int) ∧ P.length ≤ 40 + k ∧ Hid (Two w1 wr [] s 50 P bl (s + 1) 30 P 0)) (fun i _ => n2 - (intOf i).toNat)
    case atStart => exact ⟨0, P0, by omega, by simp, by omega, HB3⟩
    case round =>
      obtain ⟨k, P, hk, rfl, hP, HJ⟩ := hrel
      by_cases hlt : k < n2
      · have hlt' : (k : Int) < (n2 : Int) := by omega
        obtain ⟨x, hx⟩ : ∃ x, more[k]? = some x := ⟨_, List.getElem?_eq_getElem (by have := HN2.out; omega)⟩
        obtain ⟨g, o, rfl, e1, hg⟩ := rd_byte (HL2.out.touch (HT1.out.trans HJ.out.base (by simp)) (by simp)) HN2.out k x hx
        have hx256 := HX2.out x (List.mem_of_getElem? hx)
        have HRX : Hid (Rd (wr.alloc (.cells #[.int .u64 (x : Int)] 28)) 1 (.slice (Option.some ⟨wr.heap.size, 0, none⟩) 1 1) 1 (us [x])) := Lib.hid (rd_us wr [x])
        have HXK := Lib.hid hx
        have hwx : IntKind.u64.wrap (x : Int) = (x : Int) := IntWalk.u64_in _ (by omega)
        have HHI := Lib.hid (has_ins HJ.out.ptr.1 x (by have := HMX.out; omega))
        have hin := ins_len bl P x
        clear hx
        by_cases hc : bl ≤ x
        · have HIS := Lib.hid (ins_same bl P x hc (by have := HMX.out; omega))
          have hc' : (bl : Int) ≤ (x : Int) := by omega
          have t1 : decide (x < bl) = false := by simp; omega
          have t2 : decide (bl ≤ x) = true := by simpa using hc
          have i1 : ¬ (x : Int) < (bl : Int) := by omega
          go_wp2_with fail
          refine ((HJ.out.alloc _).add [x] HRX.out (by intro g hg; rw [(mem_own hg).1]; simp) rfl (by omega) (by simp; omega)).mono ?_
          rintro e w3 ⟨rfl, hB, _⟩
          rw [ins_one] at hB
          have HB3 := Lib.hid (hB.less (J := []) (by simp))
          clear hB e1 hg
          obtain ⟨m, hm⟩ : ∃ m, m = (addL bl [x] (P, 0)).2 := ⟨_, rfl⟩
          rw [← hm]
          clear hm
          obtain ⟨g', o', he', e2, hg'⟩ := rd_byte (HL2.out.touch (HT1.out.trans HB3.out.base (by simp)) (by simp)) HN2.out k x HXK.out
          simp at he'
          obtain ⟨rfl, rfl⟩ := he'
          have HHT : Hid (hasB x (ins bl P x) = true) := Lib.hid (by rw [HHI.out]; exact t2)
          go_wp2_with fail
          refine wp_region_hold (fun w' => w'.cell? ⟨g, o + k, none⟩ = some (.int .u8 (x : Int))) (fun w' => True) [] [false, false, false, false, false, false, false, false, false, false, false, false, false, false, false, false, false, false, false, false, false, false, false, false, false, false] (by kernel_rfl) (by kernel_rfl) (by exact e2) (by trivial) (fun hS => ?_)
          refine takeG (i := 0) (v := ?_) rfl (by kernel_rfl) (by kernel_rfl) (by kernel_rfl) (by kernel_rfl) (fun _ _ _ h => h) (Or.inl ⟨by rfl, ?_⟩) hS (fun hT => ?_)
          rotate_left
          · intro w hC; (try dsimp only at hC); go_simp; try with_reducible rfl
          clear hS
          have hS := hT
          clear hT
          simp only [Act.put, List.setIfInBounds_toArray, List.set_cons_zero] at hS ⊢
          refine takeG (i := 1) (v := ?_) rfl (by kernel_rfl) (by kernel_rfl) (by kernel_rfl) (by kernel_rfl) (fun _ _ _ h => h) (Or.inl ⟨by rfl, ?_⟩) hS (fun hT => ?_)
          rotate_left
          · intro w hC; (try dsimp only at hC); go_simp; try with_reducible rfl
          clear hS
          have hS := hT
          clear hT
          simp only [Act.put, List.setIfInBounds_toArray, List.set_cons_zero, List.set_cons_succ] at hS ⊢
          refine takeG (i := 2) (v := ?_) rfl (by kernel_rfl) (by kernel_rfl) (by kernel_rfl) (by kernel_rfl) (fun _ _ _ h => h) (Or.inl ⟨by rfl, ?_⟩) hS (fun hT => ?_)
          rotate_left
          · intro w hC; (try dsimp only at hC); go_simp; try with_reducible rfl
          clear hS
          have hS := hT
          clear hT
          simp only [Act.put, List.setIfInBounds_toArray, List.set_cons_zero, List.set_cons_succ] at hS ⊢
          refine takeG (i := 3) (v := ?_) rfl (by kernel_rfl) (by kernel_rfl) (by kernel_rfl) (by kernel_rfl) (fun _ _ _ h => h) (Or.inl ⟨by rfl, ?_⟩) hS (fun hT => ?_)
          rotate_left
          · intro w hC; (try dsimp only at hC); go_simp; try with_reducible rfl
          clear hS
          have hS := hT
          clear hT
          simp only [Act.put, List.setIfInBounds_toArray, List.set_cons_zero, List.set_cons_succ] at hS ⊢
          refine takeG (i := 4) (v := ?_) rfl (by kernel_rfl) (by kernel_rfl) (by kernel_rfl) (by kernel_rfl) (fun _ _ _ h => h) (Or.inl ⟨by rfl, ?_⟩) hS (fun hT => ?_)
          rotate_left
          · intro w hC; (try dsimp only at hC); go_simp; try with_reducible rfl
          clear hS
          have hS := hT
          clear hT
          simp only [Act.put, List.setIfInBounds_toArray, List.set_cons_zero, List.set_cons_succ] at hS ⊢
          refine takeG (i := 5) (v := ?_) rfl (by kernel_rfl) (by kernel_rfl) (by kernel_rfl) (by kernel_rfl) (fun _ _ _ h => h) (Or.inl ⟨by rfl, ?_⟩) hS (fun hT => ?_)
          rotate_left
          · intro w hC; (try dsimp only at hC); go_simp; try with_reducible rfl
          clear hS
          have hS := hT
          clear hT
          simp only [Act.put, List.setIfInBounds_toArray, List.set_cons_zero, List.set_cons_succ] at hS ⊢
          refine takeG (i := 6) (v := ?_) rfl (by kernel_rfl) (by kernel_rfl) (by kernel_rfl) (by kernel_rfl) (fun _ _ _ h => h) (Or.inl ⟨by rfl, ?_⟩) hS (fun hT => ?_)
          rotate_left
          · intro w hC; (try dsimp only at hC); go_simp; try with_reducible rfl
          clear hS
          have hS := hT
          clear hT
          simp only [Act.put, List.setIfInBounds_toArray, List.set_cons_zero, List.set_cons_succ] at hS ⊢
          refine takeG (i := 7) (v := undef) rfl (by kernel_rfl) (by kernel_rfl) (by kernel_rfl) (by kernel_rfl) (fun _ _ _ h => h) (Or.inr ⟨by rfl, rfl⟩) hS (fun hT => ?_)
          clear hS
          have hS := hT
          clear hT
          simp only [Act.put, List.setIfInBounds_toArray, List.set_cons_zero, List.set_cons_succ] at hS ⊢
          refine takeG (i := 8) (v := undef) rfl (by kernel_rfl) (by kernel_rfl) (by kernel_rfl) (by kernel_rfl) (fun _ _ _ h => h) (Or.inr ⟨by rfl, rfl⟩) hS (fun hT => ?_)
          clear hS
          have hS := hT
          clear hT
          simp only [Act.put, List.setIfInBounds_toArray, List.set_cons_zero, List.set_cons_succ] at hS ⊢
          refine takeG (i := 9) (v := ?_) rfl (by kernel_rfl) (by kernel_rfl) (by kernel_rfl) (by kernel_rfl) (fun _ _ _ h => h) (Or.inl ⟨by rfl, ?_⟩) hS (fun hT => ?_)
          rotate_left
          · intro w hC; (try dsimp only at hC); go_simp; try with_reducible rfl
          clear hS
          have hS := hT
          clear hT
          simp only [Act.put, List.setIfInBounds_toArray, List.set_cons_zero, List.set_cons_succ] at hS ⊢
          refine takeG (i := 10) (v := ?_) rfl (by kernel_rfl) (by kernel_rfl) (by kernel_rfl) (by kernel_rfl) (fun _ _ _ h => h) (Or.inl ⟨by rfl, ?_⟩) hS (fun hT => ?_)
          rotate_left
          · intro w hC; (try dsimp only at hC); go_simp; try with_reducible rfl
          clear hS
          have hS := hT
          clear hT
          simp only [Act.put, List.setIfInBounds_toArray, List.set_cons_zero, List.set_cons_succ] at hS ⊢
          refine takeG (i := 11) (v := ?_) rfl (by kernel_rfl) (by kernel_rfl) (by kernel_rfl) (by kernel_rfl) (fun _ _ _ h => h) (Or.inl ⟨by rfl, ?_⟩) hS (fun hT => ?_)
          rotate_left
          · intro w hC; (try dsimp only at hC); go_simp; try with_reducible rfl
          clear hS
          have hS := hT
          clear hT
          simp only [Act.put, List.setIfInBounds_toArray, List.set_cons_zero, List.set_cons_succ] at hS ⊢
          refine takeG (i := 12) (v := ?_) rfl (by kernel_rfl) (by kernel_rfl) (by kernel_rfl) (by kernel_rfl) (fun _ _ _ h => h) (Or.inl ⟨by rfl, ?_⟩) hS (fun hT => ?_)
          rotate_left
          · intro w hC; (try dsimp only at hC); go_simp; try with_reducible rfl
          clear hS
          have hS := hT
          clear hT
          simp only [Act.put, List.setIfInBounds_toArray, List.set_cons_zero, List.set_cons_succ] at hS ⊢
          refine takeG (i := 13) (v := ?_) rfl (by kernel_rfl) (by kernel_rfl) (by kernel_rfl) (by kernel_rfl) (fun _ _ _ h => h) (Or.inl ⟨by rfl, ?_⟩) hS (fun hT => ?_)
          rotate_left
          · intro w hC; (try dsimp only at hC); go_simp; try with_reducible rfl
          clear hS
          have hS := hT
          clear hT
          simp only [Act.put, List.setIfInBounds_toArray, List.set_cons_zero, List.set_cons_succ] at hS ⊢
          refine takeG (i := 14) (v := ?_) rfl (by kernel_rfl) (by kernel_rfl) (by kernel_rfl) (by kernel_rfl) (fun _ _ _ h => h) (Or.inl ⟨by rfl, ?_⟩) hS (fun hT => ?_)
          rotate_left
          · intro w hC; (try dsimp only at hC); go_simp; try with_reducible rfl
          clear hS
          have hS := hT
          clear hT
          simp only [Act.put, List.setIfInBounds_toArray, List.set_cons_zero, List.set_cons_succ] at hS ⊢
          refine takeG (i := 15) (v := ?_) rfl (by kernel_rfl) (by kernel_rfl) (by kernel_rfl) (by kernel_rfl) (fun _ _ _ h => h) (Or.inl ⟨by rfl, ?_⟩) hS (fun hT => ?_)
          rotate_left
          · intro w hC; (try dsimp only at hC); go_simp; try with_reducible rfl
          clear hS
          have hS := hT
          clear hT
          simp only [Act.put, List.setIfInBounds_toArray, List.set_cons_zero, List.set_cons_succ] at hS ⊢
          refine takeG (i := 16) (v := ?_) rfl (by kernel_rfl) (by kernel_rfl) (by kernel_rfl) (by kernel_rfl) (fun _ _ _ h => h) (Or.inl ⟨by rfl, ?_⟩) hS (fun hT => ?_)
          rotate_left
          · intro w hC; (try dsimp only at hC); go_simp; try with_reducible rfl
          clear hS
          have hS := hT
          clear hT
          simp only [Act.put, List.setIfInBounds_toArray, List.set_cons_zero, List.set_cons_succ] at hS ⊢
          refine takeG (i := 18) (v := ?_) rfl (by kernel_rfl) (by kernel_rfl) (by kernel_rfl) (by kernel_rfl) (fun _ _ _ h => h) (Or.inl ⟨by rfl, ?_⟩) hS (fun hT => ?_)
          rotate_left
          · intro w hC; (try dsimp only at hC); go_simp; try with_reducible rfl
          clear hS
          have hS := hT
          clear hT
          simp only [Act.put, List.setIfInBounds_toArray, List.set_cons_zero, List.set_cons_succ] at hS ⊢
          refine takeG (i := 19) (v := ?_) rfl (by kernel_rfl) (by kernel_rfl) (by kernel_rfl) (by kernel_rfl) (fun _ _ _ h => h) (Or.inl ⟨by rfl, ?_⟩) hS (fun hT => ?_)
          rotate_left
          · intro w hC; (try dsimp only at hC); go_simp; try with_reducible rfl
          clear hS
          have hS := hT
          clear hT
          simp only [Act.put, List.setIfInBounds_toArray, List.set_cons_zero, List.set_cons_succ] at hS ⊢
          refine takeG (i := 20) (v := ?_) rfl (by kernel_rfl) (by kernel_rfl) (by kernel_rfl) (by kernel_rfl) (fun _ _ _ h => h) (Or.inl ⟨by rfl, ?_⟩) hS (fun hT => ?_)
          rotate_left
          · intro w hC; (try dsimp only at hC); go_simp; try with_reducible rfl
          clear hS
          have hS := hT
          clear hT
          simp only [Act.put, List.setIfInBounds_toArray, List.set_cons_zero, List.set_cons_succ] at hS ⊢
          refine takeG (i := 21) (v := ?_) rfl (by kernel_rfl) (by kernel_rfl) (by kernel_rfl) (by kernel_rfl) (fun _ _ _ h => h) (Or.inl ⟨by rfl, ?_⟩) hS (fun hT => ?_)
          rotate_left
          · intro w hC; (try dsimp only at hC); go_simp; try with_reducible rfl
          clear hS
          have hS := hT
          clear hT
          simp only [Act.put, List.setIfInBounds_toArray, List.set_cons_zero, List.set_cons_succ] at hS ⊢
          refine takeG (i := 22) (v := ?_) rfl (by kernel_rfl) (by kernel_rfl) (by kernel_rfl) (by kernel_rfl) (fun _ _ _ h => h) (Or.inl ⟨by rfl, ?_⟩) hS (fun hT => ?_)
          rotate_left
          · intro w hC; (try dsimp only at hC); go_simp; try with_reducible rfl
          clear hS
          have hS := hT
          clear hT
          simp only [Act.put, List.setIfInBounds_toArray, List.set_cons_zero, List.set_cons_succ] at hS ⊢
          refine takeG (i := 23) (v := ?_) rfl (by kernel_rfl) (by kernel_rfl) (by kernel_rfl) (by kernel_rfl) (fun _ _ _ h => h) (Or.inl ⟨by rfl, ?_⟩) hS (fun hT => ?_)
          rotate_left
          · intro w hC; (try dsimp only at hC); go_simp; try with_reducible rfl
          clear hS
          have hS := hT
          clear hT
          simp only [Act.put, List.setIfInBounds_toArray, List.set_cons_zero, List.set_cons_succ] at hS ⊢
          refine oneG (i := 17) (by kernel_rfl) rfl (fun K hK => ?_)
          (go_simp; go_at_call 15; refine ((HB3.out.keep (w' := w3.drew) ((Touch.refl _ _).drew)).has x).mono ?_; rw [HHT.out]; rintro e w4 ⟨rfl, hT4⟩; have HT4 := Lib.hid hT4; have e3 : w4.cell? ⟨g, o + k, none⟩ = some (.int .u8 (x : Int)) := (HT4.out.cell (by exact e2) (by simp)); have hg4 : g < w4.heap.size := (Nat.lt_of_lt_of_le hg' HT4.out.size); clear hT4; go_wp2_with fail)
          refine hK.out _ _ ⟨?_, fun hu => ?_⟩ (fun hT => ?_)
          · exact e3
          · trivial
          clear hS
          have hS := hT
          clear hT
          simp only [List.setIfInBounds_toArray, List.set_cons_zero, List.set_cons_succ] at hS ⊢
          clear hK K
          refine takeG (i := 24) (v := ?_) rfl (by kernel_rfl) (by kernel_rfl) (by kernel_rfl) (by kernel_rfl) (fun _ _ _ h => h) (Or.inl ⟨by rfl, ?_⟩) hS (fun hT => ?_)
          rotate_left
          · intro w hC; (try dsimp only at hC); go_simp; try with_reducible rfl
          clear hS
          have hS := hT
          clear hT
          simp only [Act.put, List.setIfInBounds_toArray, List.set_cons_zero, List.set_cons_succ] at hS ⊢
          refine takeG (i := 25) (v := ?_) rfl (by kernel_rfl) (by kernel_rfl) (by kernel_rfl) (by kernel_rfl) (fun _ _ _ h => h) (Or.inl ⟨by rfl, ?_⟩) hS (fun hT => ?_)
          rotate_left
          · intro w hC; (try dsimp only at hC); go_simp; try with_reducible rfl
          clear hS
          have hS := hT
          clear hT
          simp only [Act.put, List.setIfInBounds_toArray, List.set_cons_zero, List.set_cons_succ] at hS ⊢
          refine wpAnyG_done (by kernel_rfl) ?_ _
          clear hS
          have HB4 := Lib.hid (HB3.out.keep (((Touch.refl [] w3).drew).trans HT4.out (by simp)))
          have HRY : Hid (Rd (w4.alloc (.cells #[.int .u64 (x : Int)] 28)) 1 (.slice (Option.some ⟨w4.heap.size, 0, none⟩) 1 1) 1 (us [x])) := Lib.hid (rd_us w4 [x])
          go_wp2_with fail
          refine ((HB4.out.alloc _).symm.addR [x] HRY.out (by intro g hg; rw [(mem_own hg).1]; simp) rfl (by omega) (by simp; omega)).mono ?_
          rintro e w5 ⟨rfl, hB, _⟩
          rw [ins_one, ← HIS.out] at hB
          have HB5 := Lib.hid (hB.symm.less (J := []) (by simp))
          clear hB
          go_wp2_with fail
          go_roundw
          case rel => exact ⟨k + 1, ins bl P x, by omega, by go_num, by omega, HB5⟩
          case measure => simp [intOf]; omega
        · have HIN := Lib.hid (ins_not bl P x (by omega))
          have hc' : ¬ (bl : Int) ≤ (x : Int) := by omega
          have t1 : decide (x < bl) = true := by simp; omega
          have t2 : decide (bl ≤ x) = false := by simpa using hc
          have i1 : (x : Int) < (bl : Int) := by omega
          go_wp2_with fail
          refine ((HJ.out.alloc _).add [x] HRX.out (by intro g hg; rw [(mem_own hg).1]; simp) rfl (by omega) (by simp; omega)).mono ?_
          rintro e w3 ⟨rfl, hB, _⟩
          rw [ins_one, HIN.out.1] at hB
          rw [HIN.out.2]
          have HB3 := Lib.hid (hB.less (J := []) (by simp))
          clear hB e1 hg
          obtain ⟨g', o', he', e2, hg'⟩ := rd_byte (HL2.out.touch (HT1.out.trans HB3.out.base (by simp)) (by simp)) HN2.out k x HXK.out
          simp at he'
          obtain ⟨rfl, rfl⟩ := he'
          have HHT : Hid (hasB x P = false) := Lib.hid (by have := HHI.out; rw [HIN.out.1, t2] at this; exact this)
          go_wp2_with fail
          refine wp_region_hold (fun w' => w'.cell? ⟨g, o + k, none⟩ = some (.int .u8 (x : Int))) (fun w' => True) [] [false, false, false, false, false, false, false, false, false, false, false, false, false, false, false, false, false, false, false, false, false, false, false, false, false, false] (by kernel_rfl) (by kernel_rfl) (by exact e2) (by trivial) (fun hS => ?_)
          refine takeG (i := 0) (v := ?_) rfl (by kernel_rfl) (by kernel_rfl) (by kernel_rfl) (by kernel_rfl) (fun _ _ _ h => h) (Or.inl ⟨by rfl, ?_⟩) hS (fun hT => ?_)
          rotate_left
          · intro w hC; (try dsimp only at hC); go_simp; try with_reducible rfl
          clear hS
          have hS := hT
          clear hT
          simp only [Act.put, List.setIfInBounds_toArray, List.set_cons_zero] at hS ⊢
          refine takeG (i := 1) (v := ?_) rfl (by kernel_rfl) (by kernel_rfl) (by kernel_rfl) (by kernel_rfl) (fun _ _ _ h => h) (Or.inl ⟨by rfl, ?_⟩) hS (fun hT => ?_)
          rotate_left
          · intro w hC; (try dsimp only at hC); go_simp; try with_reducible rfl
          clear hS
          have hS := hT
          clear hT
          simp only [Act.put, List.setIfInBounds_toArray, List.set_cons_zero, List.set_cons_succ] at hS ⊢
          refine takeG (i := 2) (v := ?_) rfl (by kernel_rfl) (by kernel_rfl) (by kernel_rfl) (by kernel_rfl) (fun _ _ _ h => h) (Or.inl ⟨by rfl, ?_⟩) hS (fun hT => ?_)
          rotate_left
          · intro w hC; (try dsimp only at hC); go_simp; try with_reducible rfl
          clear hS
          have hS := hT
          clear hT
          simp only [Act.put, List.setIfInBounds_toArray, List.set_cons_zero, List.set_cons_succ] at hS ⊢
          refine takeG (i := 3) (v := ?_) rfl (by kernel_rfl) (by kernel_rfl) (by kernel_rfl) (by kernel_rfl) (fun _ _ _ h => h) (Or.inl ⟨by rfl, ?_⟩) hS (fun hT => ?_)
          rotate_left
          · intro w hC; (try dsimp only at hC); go_simp; try with_reducible rfl
          clear hS
          have hS := hT
          clear hT
          simp only [Act.put, List.setIfInBounds_toArray, List.set_cons_zero, List.set_cons_succ] at hS ⊢
          refine takeG (i := 4) (v := ?_) rfl (by kernel_rfl) (by kernel_rfl) (by kernel_rfl) (by kernel_rfl) (fun _ _ _ h => h) (Or.inl ⟨by rfl, ?_⟩) hS (fun hT => ?_)
          rotate_left
          · intro w hC; (try dsimp only at hC); go_simp; try with_reducible rfl
          clear hS
          have hS := hT
          clear hT
          simp only [Act.put, List.setIfInBounds_toArray, List.set_cons_zero, List.set_cons_succ] at hS ⊢
          refine takeG (i := 5) (v := ?_) rfl (by kernel_rfl) (by kernel_rfl) (by kernel_rfl) (by kernel_rfl) (fun _ _ _ h => h) (Or.inl ⟨by rfl, ?_⟩) hS (fun hT => ?_)
          rotate_left
          · intro w hC; (try dsimp only at hC); go_simp; try with_reducible rfl
          clear hS
          have hS := hT
          clear hT
          simp only [Act.put, List.setIfInBounds_toArray, List.set_cons_zero, List.set_cons_succ] at hS ⊢
          refine takeG (i := 6) (v := ?_) rfl (by kernel_rfl) (by kernel_rfl) (by kernel_rfl) (by kernel_rfl) (fun _ _ _ h => h) (Or.inl ⟨by rfl, ?_⟩) hS (fun hT => ?_)
          rotate_left
          · intro w hC; (try dsimp only at hC); go_simp; try with_reducible rfl
          clear hS
          have hS := hT
          clear hT
          simp only [Act.put, List.setIfInBounds_toArray, List.set_cons_zero, List.set_cons_succ] at hS ⊢
          refine takeG (i := 7) (v := ?_) rfl (by kernel_rfl) (by kernel_rfl) (by kernel_rfl) (by kernel_rfl) (fun _ _ _ h => h) (Or.inl ⟨by rfl, ?_⟩) hS (fun hT => ?_)
          rotate_left
          · intro w hC; (try dsimp only at hC); go_simp; try with_reducible rfl
          clear hS
          have hS := hT
          clear hT
          simp only [Act.put, List.setIfInBounds_toArray, List.set_cons_zero, List.set_cons_succ] at hS ⊢
          refine takeG (i := 8) (v := ?_) rfl (by kernel_rfl) (by kernel_rfl) (by kernel_rfl) (by kernel_rfl) (fun _ _ _ h => h) (Or.inl ⟨by rfl, ?_⟩) hS (fun hT => ?_)
          rotate_left
          · intro w hC; (try dsimp only at hC); go_simp; try with_reducible rfl
          clear hS
          have hS := hT
          clear hT
          simp only [Act.put, List.setIfInBounds_toArray, List.set_cons_zero, List.set_cons_succ] at hS ⊢
          refine takeG (i := 9) (v := ?_) rfl (by kernel_rfl) (by kernel_rfl) (by kernel_rfl) (by kernel_rfl) (fun _ _ _ h => h) (Or.inl ⟨by rfl, ?_⟩) hS (fun hT => ?_)
          rotate_left
          · intro w hC; (try dsimp only at hC); go_simp; try with_reducible rfl
          clear hS
          have hS := hT
          clear hT
          simp only [Act.put, List.setIfInBounds_toArray, List.set_cons_zero, List.set_cons_succ] at hS ⊢
          refine takeG (i := 10) (v := ?_) rfl (by kernel_rfl) (by kernel_rfl) (by kernel_rfl) (by kernel_rfl) (fun _ _ _ h => h) (Or.inl ⟨by rfl, ?_⟩) hS (fun hT => ?_)
          rotate_left
          · intro w hC; (try dsimp only at hC); go_simp; try with_reducible rfl
          clear hS
          have hS := hT
          clear hT
          simp only [Act.put, List.setIfInBounds_toArray, List.set_cons_zero, List.set_cons_succ] at hS ⊢
          refine takeG (i := 11) (v := ?_) rfl (by kernel_rfl) (by kernel_rfl) (by kernel_rfl) (by kernel_rfl) (fun _ _ _ h => h) (Or.inl ⟨by rfl, ?_⟩) hS (fun hT => ?_)
          rotate_left
          · intro w hC; (try dsimp only at hC); go_simp; try with_reducible rfl
          clear hS
          have hS := hT
          clear hT
          simp only [Act.put, List.setIfInBounds_toArray, List.set_cons_zero, List.set_cons_succ] at hS ⊢
          refine takeG (i := 12) (v := ?_) rfl (by kernel_rfl) (by kernel_rfl) (by kernel_rfl) (by kernel_rfl) (fun _ _ _ h => h) (Or.inl ⟨by rfl, ?_⟩) hS (fun hT => ?_)
          rotate_left
          · intro w hC; (try dsimp only at hC); go_simp; try with_reducible rfl
          clear hS
          have hS := hT
          clear hT
          simp only [Act.put, List.setIfInBounds_toArray, List.set_cons_zero, List.set_cons_succ] at hS ⊢
          refine takeG (i := 13) (v := ?_) rfl (by kernel_rfl) (by kernel_rfl) (by kernel_rfl) (by kernel_rfl) (fun _ _ _ h => h) (Or.inl ⟨by rfl, ?_⟩) hS (fun hT => ?_)
          rotate_left
          · intro w hC; (try dsimp only at hC); go_simp; try with_reducible rfl
          clear hS
          have hS := hT
          clear hT
          simp only [Act.put, List.setIfInBounds_toArray, List.set_cons_zero, List.set_cons_succ] at hS ⊢
          refine takeG (i := 14) (v := ?_) rfl (by kernel_rfl) (by kernel_rfl) (by kernel_rfl) (by kernel_rfl) (fun _ _ _ h => h) (Or.inl ⟨by rfl, ?_⟩) hS (fun hT => ?_)
          rotate_left
          · intro w hC; (try dsimp only at hC); go_simp; try with_reducible rfl
          clear hS
          have hS := hT
          clear hT
          simp only [Act.put, List.setIfInBounds_toArray, List.set_cons_zero, List.set_cons_succ] at hS ⊢
          refine takeG (i := 15) (v := ?_) rfl (by kernel_rfl) (by kernel_rfl) (by kernel_rfl) (by kernel_rfl) (fun _ _ _ h => h) (Or.inl ⟨by rfl, ?_⟩) hS (fun hT => ?_)
          rotate_left
          · intro w hC; (try dsimp only at hC); go_simp; try with_reducible rfl
          clear hS
          have hS := hT
          clear hT
          simp only [Act.put, List.setIfInBounds_toArray, List.set_cons_zero, List.set_cons_succ] at hS ⊢
          refine takeG (i := 16) (v := ?_) rfl (by kernel_rfl) (by kernel_rfl) (by kernel_rfl) (by kernel_rfl) (fun _ _ _ h => h) (Or.inl ⟨by rfl, ?_⟩) hS (fun hT => ?_)
          rotate_left
          · intro w hC; (try dsimp only at hC); go_simp; try with_reducible rfl
          clear hS
          have hS := hT
          clear hT
          simp only [Act.put, List.setIfInBounds_toArray, List.set_cons_zero, List.set_cons_succ] at hS ⊢
          refine takeG (i := 18) (v := ?_) rfl (by kernel_rfl) (by kernel_rfl) (by kernel_rfl) (by kernel_rfl) (fun _ _ _ h => h) (Or.inl ⟨by rfl, ?_⟩) hS (fun hT => ?_)
          rotate_left
          · intro w hC; (try dsimp only at hC); go_simp; try with_reducible rfl
          clear hS
          have hS := hT
          clear hT
          simp only [Act.put, List.setIfInBounds_toArray, List.set_cons_zero, List.set_cons_succ] at hS ⊢
          refine takeG (i := 19) (v := ?_) rfl (by kernel_rfl) (by kernel_rfl) (by kernel_rfl) (by kernel_rfl) (fun _ _ _ h => h) (Or.inl ⟨by rfl, ?_⟩) hS (fun hT => ?_)
          rotate_left
          · intro w hC; (try dsimp only at hC); go_simp; try with_reducible rfl
          clear hS
          have hS := hT
          clear hT
          simp only [Act.put, List.setIfInBounds_toArray, List.set_cons_zero, List.set_cons_succ] at hS ⊢
          refine takeG (i := 20) (v := ?_) rfl (by kernel_rfl) (by kernel_rfl) (by kernel_rfl) (by kernel_rfl) (fun _ _ _ h => h) (Or.inl ⟨by rfl, ?_⟩) hS (fun hT => ?_)
          rotate_left
          · intro w hC; (try dsimp only at hC); go_simp; try with_reducible rfl
          clear hS
          have hS := hT
          clear hT
          simp only [Act.put, List.setIfInBounds_toArray, List.set_cons_zero, List.set_cons_succ] at hS ⊢
          refine takeG (i := 21) (v := ?_) rfl (by kernel_rfl) (by kernel_rfl) (by kernel_rfl) (by kernel_rfl) (fun _ _ _ h => h) (Or.inl ⟨by rfl, ?_⟩) hS (fun hT => ?_)
          rotate_left
          · intro w hC; (try dsimp only at hC); go_simp; try with_reducible rfl
          clear hS
          have hS := hT
          clear hT
          simp only [Act.put, List.setIfInBounds_toArray, List.set_cons_zero, List.set_cons_succ] at hS ⊢
          refine takeG (i := 22) (v := ?_) rfl (by kernel_rfl) (by kernel_rfl) (by kernel_rfl) (by kernel_rfl) (fun _ _ _ h => h) (Or.inl ⟨by rfl, ?_⟩) hS (fun hT => ?_)
          rotate_left
          · intro w hC; (try dsimp only at hC); go_simp; try with_reducible rfl
          clear hS
          have hS := hT
          clear hT
          simp only [Act.put, List.setIfInBounds_toArray, List.set_cons_zero, List.set_cons_succ] at hS ⊢
          refine takeG (i := 23) (v := ?_) rfl (by kernel_rfl) (by kernel_rfl) (by kernel_rfl) (by kernel_rfl) (fun _ _ _ h => h) (Or.inl ⟨by rfl, ?_⟩) hS (fun hT => ?_)
          rotate_left
          · intro w hC; (try dsimp only at hC); go_simp; try with_reducible rfl
          clear hS
          have hS := hT
          clear hT
          simp only [Act.put, List.setIfInBounds_toArray, List.set_cons_zero, List.set_cons_succ] at hS ⊢
          refine oneG (i := 17) (by kernel_rfl) rfl (fun K hK => ?_)
          (go_simp; go_at_call 15; refine ((HB3.out.keep (w' := w3.drew) ((Touch.refl _ _).drew)).has x).mono ?_; rw [HHT.out]; rintro e w4 ⟨rfl, hT4⟩; have HT4 := Lib.hid hT4; have e3 : w4.cell? ⟨g, o + k, none⟩ = some (.int .u8 (x : Int)) := (HT4.out.cell (by exact e2) (by simp)); have hg4 : g < w4.heap.size := (Nat.lt_of_lt_of_le hg' HT4.out.size); clear hT4; go_wp2_with fail)
          refine hK.out _ _ ⟨?_, fun hu => ?_⟩ (fun hT => ?_)
          · exact e3
          · trivial
          clear hS
          have hS := hT
          clear hT
          simp only [List.setIfInBounds_toArray, List.set_cons_zero, List.set_cons_succ] at hS ⊢
          clear hK K
          refine takeG (i := 24) (v := ?_) rfl (by kernel_rfl) (by kernel_rfl) (by kernel_rfl) (by kernel_rfl) (fun _ _ _ h => h) (Or.inl ⟨by rfl, ?_⟩) hS (fun hT => ?_)
          rotate_left
          · intro w hC; (try dsimp only at hC); go_simp; try with_reducible rfl
          clear hS
          have hS := hT
          clear hT
          simp only [Act.put, List.setIfInBounds_toArray, List.set_cons_zero, List.set_cons_succ] at hS ⊢
          refine takeG (i := 25) (v := ?_) rfl (by kernel_rfl) (by kernel_rfl) (by kernel_rfl) (by kernel_rfl) (fun _ _ _ h => h) (Or.inl ⟨by rfl, ?_⟩) hS (fun hT => ?_)
          rotate_left
          · intro w hC; (try dsimp only at hC); go_simp; try with_reducible rfl
          clear hS
          have hS := hT
          clear hT
          simp only [Act.put, List.setIfInBounds_toArray, List.set_cons_zero, List.set_cons_succ] at hS ⊢
          refine wpAnyG_done (by kernel_rfl) ?_ _
          clear hS
          have HB4 := Lib.hid (HB3.out.keep (((Touch.refl [] w3).drew).trans HT4.out (by simp)))
          go_wp2_with fail
          go_roundw
          case rel => exact ⟨k + 1, P, by omega, by go_num, by omega, HB4⟩
          case measure => simp [intOf]; omega
      · obtain rfl : k = n2 := by omega
        have HFP : Hid (fgt P (max bl (bl / 2)) = P ∧ max bl (bl / 2) = bl) := Lib.hid (by
          have e : max bl (bl / 2) = bl := by omega
          rw [e]
          exact ⟨fgt_same HJ.out.ptr.1, rfl⟩)
        go_wp2_with fail
        rw [show (bl : Int) / 2 = ((bl / 2 : Nat) : Int) from by omega]
        refine (HJ.out.forget (bl / 2) (by omega) (by have := HMX.out; omega)).mono ?_
        rw [HFP.out.1, HFP.out.2]
        rintro e w4 ⟨rfl, hB, _⟩
        have HB4 := Lib.hid hB
        clear hB
        go_wp2_with fail
        refine (HB4.out.ranges 300 (by omega)).mono ?_
        rintro e w5 ⟨v1, rfl, k1, k2, _⟩
        have HV1 := Lib.hid k1
        have HB5 := Lib.hid (HB4.out.keep k2)
        clear k1 k2
        go_wp2_with fail
        refine (HB5.out.symm.rangesR 300 (by omega)).mono ?_
        rintro e w6 ⟨v2, rfl, k1, k2, _⟩
        have HV2 := Lib.hid k1
        have HV3 := Lib.hid (HV1.out.touch k2 (by simp))
        have HB6 := Lib.hid (HB5.out.keep k2)
        clear k1 k2
        go_wp2_with fail
        refine (alike_same _ _ _ _ HV3.out HV2.out (by simp; omega)).mono ?_
        rintro e w7 ⟨rfl, k⟩
        have HB7 := Lib.hid (HB6.out.keep k)
        clear k
        obtain ⟨u, hu⟩ : ∃ u, u = cnt P := ⟨_, rfl⟩
        have HU := Lib.hid hu
        clear hu
        go_wp2_with fail
        refine (HB7.out.count).mono ?_
        rw [← HU.out]
        rintro e w8 ⟨rfl, k⟩
        have HB8 := Lib.hid (HB7.out.keep k)
        clear k
        go_wp2_with fail
        refine (HB8.out.symm.countR).mono ?_
        rw [← HU.out]
        rintro e w9 ⟨rfl, k⟩
        have HT9 := Lib.hid (HT1.out.trans (HB8.out.base.trans k (by simp)) (by simp))
        clear k
        go_wp2_with fail
        go_ret
        exact ⟨ret_b (by simp), HT9.out⟩

/-- Too many: nothing is said. -/
theorem forgets_many (a a2 : Option Addr) (n c n2 c2 bl : Nat) (w : World) (h40 : 40 < n ∨ (n ≤ 40 ∧ 40 < n2)) :
    Calls Try.prog 5 #[.slice a n c, .int .u8 (bl : Int), .slice a2 n2 c2] w fun e w' => e = .returned (.bool true) ∧ Touch [] w w' := by
  rcases h40 with h | ⟨h, h'⟩
  · have h40' : (40 : Int) < (n : Int) := by omega
    go_enter Try.func5, Try.ntmps5
    go_wp2_with fail
    refine (known_any _).mono ?_
    rintro e w1 ⟨rfl, hT⟩
    have HT1 := Lib.hid hT
    clear hT
    go_wp2_with fail
    go_ret
    exact ⟨rfl, HT1.out⟩
  · have h40' : ¬ (40 : Int) < (n : Int) := by omega
    have h402 : (40 : Int) < (n2 : Int) := by omega
    go_enter Try.func5, Try.ntmps5
    go_wp2_with fail
    refine (known_any _).mono ?_
    rintro e w1 ⟨rfl, hT⟩
    have HT1 := Lib.hid hT
    clear hT
    go_wp2_with fail
    go_ret
    exact ⟨rfl, HT1.out⟩
end Go.Proofs.Ytbijoeemioeejaa
