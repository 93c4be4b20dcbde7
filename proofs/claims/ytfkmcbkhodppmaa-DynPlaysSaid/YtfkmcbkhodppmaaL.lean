/- The walk of the statement on scripts of entries and capacities. Conditions: the acts can be read. -/
import Derived.Test.YtfkmcbkhodppmaaZ
import Derived.Test.YtfkmcbkhodppmaaH
namespace Go.Proofs.Ytfkmcbkhodppmaa
open Go.RowKit Go.Maps
set_option linter.unusedVariables false

/-- The two tables, and a block that is none of theirs. -/
def TwoB (w wr : World) (t r : Nat) (s1 : TS) (c1 : Nat) (s2 : TS) (c2 : Nat) (q : Nat) (vs : List Value) (ty : TypeId) : Prop :=
  ∃ F G, IsTab wr t F s1 c1 ∧ IsRef wr r G s2 c2 ∧ (∀ g ∈ F, w.heap.size ≤ g ∧ g ∉ G) ∧ (∀ g ∈ G, w.heap.size ≤ g) ∧ Touch [] w wr ∧ s1.ok c1 ∧ s2.ok c2 ∧ IsBlk wr q vs ty ∧ q ∉ F ∧ q ∉ G
section
variable {w wr wr' : World} {t r c1 c2 q : Nat} {s1 s2 : TS} {vs : List Value} {ty : TypeId}
theorem Two.box (h : Two w wr t r s1 c1 s2 c2) (vs : List Value) (ty : TypeId) : TwoB w (wr.alloc (.cells vs.toArray ty)) t r s1 c1 s2 c2 wr.heap.size vs ty := by
  obtain ⟨F, G, h1, h2, h3, h4, h5, h6, h7⟩ := h
  exact ⟨F, G, h1.keep ((Touch.refl [] _).alloc _), h2.keep ((Touch.refl [] _).alloc _), h3, h4, h5.alloc _, h6, h7, IsBlk.new _ _ _, fun hm => Nat.lt_irrefl _ (h1.lt _ hm), fun hm => Nat.lt_irrefl _ (h2.lt _ hm)⟩
theorem TwoB.two (h : TwoB w wr t r s1 c1 s2 c2 q vs ty) : Two w wr t r s1 c1 s2 c2 := let ⟨F, G, h1, h2, h3, h4, h5, h6, h7, _⟩ := h; ⟨F, G, h1, h2, h3, h4, h5, h6, h7⟩
theorem TwoB.blk (h : TwoB w wr t r s1 c1 s2 c2 q vs ty) : IsBlk wr q vs ty := let ⟨_, _, _, _, _, _, _, _, _, h8, _⟩ := h; h8
theorem TwoB.keep (h : TwoB w wr t r s1 c1 s2 c2 q vs ty) (hk : Touch [] wr wr') : TwoB w wr' t r s1 c1 s2 c2 q vs ty := by
  obtain ⟨F, G, h1, h2, h3, h4, h5, h6, h7, h8, h9⟩ := h
  exact ⟨F, G, h1.keep hk, h2.keep hk, h3, h4, h5.trans hk (by simp), h6, h7, h8.touch hk (by simp), h9⟩
theorem TwoB.addT (h : TwoB w wr t r s1 c1 s2 c2 q vs ty) (hk : Touch [] wr wr') (x : Value) (l : List Fld) (hx : Rd wr' 2 x l.length (cf l)) (hxo : ∀ g ∈ own x, g < w.heap.size ∨ wr.heap.size ≤ g) (hcap : c1 ≤ 549755813888)
    (hcn : s1.cnt + l.length ≤ 549755813888) (hl : ∀ y ∈ l, sz y ≤ 549755813888) :
    Calls Try.prog 12 #[.pointer (some ⟨t, 0, none⟩), x] wr' fun e w' => e = .returned (.int .i64 (goneA c1 s1 l)) ∧ TwoB w w' t r (addA c1 s1 l) c1 s2 c2 q vs ty := by
  obtain ⟨F, G, h1, h2, h3, h4, h5, h6, h7, h8, h9, h10⟩ := h
  refine (add_any (h1.keep hk) x l hx (fun g hg hm => ?_) h6 hcap hcn hl).mono ?_
  · have := (h3 g hm).1
    have := h1.lt g hm
    rcases hxo g hg with h | h <;> omega
  · rintro e w' ⟨rfl, F', k1, k2, k3⟩
    have hs1 := hk.size
    have hs2 := h5.size
    have hq := h8.lt
    refine ⟨rfl, F', G, k1, (h2.keep hk).touch k2 (fun g hg hm => (h3 g hm).2 hg), fun g hg => ?_, h4, (h5.trans hk (by simp)).trans k2 (fun g hg => .inr (h3 g hg).1), (ok_addA l h6).1, h7, (h8.touch hk (by simp)).touch k2 h9, fun hm => ?_, h10⟩
    · rcases k3 g hg with h | h
      · exact h3 g h
      · exact ⟨by omega, fun hm => by have := h2.lt g hm; omega⟩
    · rcases k3 q hm with h | h
      · exact h9 h
      · omega
theorem TwoB.addR (h : TwoB w wr t r s1 c1 s2 c2 q vs ty) (y : Fld) (hy : sz y ≤ 1099511627776) (hcap : c2 ≤ 549755813888) (hcn : s2.cnt < 1099511627776) :
    Calls Try.prog 11 #[.pointer (some ⟨r, 0, none⟩), .agg #[.string y.1, .string y.2]] wr fun e w' => e = .returned (.int .i64 (gone1 c2 s2 y)) ∧ TwoB w w' t r s1 c1 (add1 c2 s2 y) c2 q vs ty := by
  obtain ⟨F, G, h1, h2, h3, h4, h5, h6, h7, h8, h9, h10⟩ := h
  refine (refAdd_any h2 y hy (by omega) hcn (by have := h7.2; omega)).mono ?_
  rintro e w' ⟨rfl, G', k1, k2, k3⟩
  have hs2 := h5.size
  have hq := h8.lt
  refine ⟨rfl, F, G', h1.touch k2 (fun g hg hm => (h3 g hg).2 hm), k1, fun g hg => ⟨(h3 g hg).1, fun hm => ?_⟩, fun g hg => ?_, h5.trans k2 (fun g hg => .inr (h4 g hg)), h6, ok_add1 h7 y, h8.touch k2 h10, h9, fun hm => ?_⟩
  · rcases k3 g hm with h | h
    · exact (h3 g hg).2 h
    · have := h1.lt g hg; omega
  · rcases k3 g hg with h | h
    · exact h4 g h
    · omega
  · rcases k3 q hm with h | h
    · exact h10 h
    · omega
theorem TwoB.resT (h : TwoB w wr t r s1 c1 s2 c2 q vs ty) (n : Int) (hn : n ≤ 549755813888) (hcap : c1 ≤ 549755813888) (hcn : s1.cnt ≤ 549755813888) :
    Calls Try.prog 20 #[.pointer (some ⟨t, 0, none⟩), .int .i64 n] wr fun e w' => e = .returned (.int .i64 (fitN s1.L (up n))) ∧ TwoB w w' t r (setC s1 (up n)) (up n) s2 c2 q vs ty := by
  obtain ⟨F, G, h1, h2, h3, h4, h5, h6, h7, h8, h9, h10⟩ := h
  refine (resize_any h1 n (by omega) (by omega) (by have := h6.2; omega)).mono ?_
  rintro e w' ⟨rfl, F', k1, k2, k3⟩
  refine ⟨rfl, F', G, k1, h2.touch k2 (fun g hg hm => (h3 g hm).2 hg), fun g hg => h3 g (k3 g hg), h4, h5.trans k2 (fun g hg => .inr (h3 g hg).1), ⟨?_, ?_⟩, h7, h8.touch k2 h9, fun hm => h9 (k3 q hm), h10⟩
  · have := fitL_len s1.L (up n)
    have := h6.1
    show (fitL s1.L (up n)).length ≤ s1.cnt
    omega
  · have := fitL_sz s1.L (up n) (by omega)
    show szL (fitL s1.L (up n)) ≤ up n
    omega
theorem TwoB.resR (h : TwoB w wr t r s1 c1 s2 c2 q vs ty) (n : Int) (hn : n ≤ 549755813888) (hcap : c2 ≤ 549755813888) (hcn : s2.cnt ≤ 549755813888) :
    Calls Try.prog 21 #[.pointer (some ⟨r, 0, none⟩), .int .i64 n] wr fun e w' => e = .returned (.int .i64 (fitN s2.L (up n))) ∧ TwoB w w' t r s1 c1 (setC s2 (up n)) (up n) q vs ty := by
  obtain ⟨F, G, h1, h2, h3, h4, h5, h6, h7, h8, h9, h10⟩ := h
  refine (refResize_any h2 n (by omega) (by omega) (by have := h7.2; omega)).mono ?_
  rintro e w' ⟨rfl, G', k1, k2, k3⟩
  refine ⟨rfl, F, G', h1.touch k2 (fun g hg hm => (h3 g hg).2 hm), k1, fun g hg => ⟨(h3 g hg).1, fun hm => (h3 g hg).2 (k3 g hm)⟩, fun g hg => h4 g (k3 g hg), h5.trans k2 (fun g hg => .inr (h4 g hg)), h6, ⟨?_, ?_⟩, h8.touch k2 h10, h9, fun hm => h10 (k3 q hm)⟩
  · have := fitL_len s2.L (up n)
    have := h7.1
    show (fitL s2.L (up n)).length ≤ s2.cnt
    omega
  · have := fitL_sz s2.L (up n) (by omega)
    show szL (fitL s2.L (up n)) ≤ up n
    omega
theorem TwoB.alike {s : TS} {c : Nat} (h : TwoB w wr t r s c s c q vs ty) (f : Fld) (hf : OkW f) (a : Int) (ha : 0 ≤ a ∧ a ≤ 18446744073709551615) (hc : s.cnt ≤ 549755813888) (hcap : c ≤ 549755813888) :
    Calls Try.prog 13 #[.pointer (some ⟨t, 0, none⟩), .pointer (some ⟨r, 0, none⟩), .agg #[.string f.1, .string f.2], .int .u64 a] wr fun e w' => e = .returned (.bool true) ∧ TwoB w w' t r s c s c q vs ty := by
  have h0 := h
  obtain ⟨F, G, h1, h2, h3, h4, h5, h6, h7, h8⟩ := h
  refine (alike_any h1 h2 f hf a ha hc (by have := h6.2; omega)).mono ?_
  rintro e w' ⟨rfl, k⟩
  exact ⟨rfl, h0.keep k⟩
theorem TwoB.size (h : TwoB w wr t r s1 c1 s2 c2 q vs ty) : Calls Try.prog 15 #[.pointer (some ⟨t, 0, none⟩)] wr fun e w' => e = .returned (.int .i64 (szL s1.L)) ∧ wr = w' := let ⟨_, _, h1, _⟩ := h; tabSize_any h1
theorem TwoB.capOf (h : TwoB w wr t r s1 c1 s2 c2 q vs ty) : Calls Try.prog 18 #[.pointer (some ⟨t, 0, none⟩)] wr fun e w' => e = .returned (.int .i64 c1) ∧ wr = w' := let ⟨_, _, h1, _⟩ := h; cap_any h1
end

set_option maxRecDepth 100000 in
theorem plays_many (n : Int) (a0 : Option Addr) (cap : Nat) (xs : List Act5) (f : Fld) (a : Int) (w : World) (h : 40 < xs.length) :
    Calls Try.prog 6 #[.int .i64 n, .slice a0 xs.length cap, .agg #[.string f.1, .string f.2], .int .u64 a] w fun e w' => e = .returned (.bool true) ∧ Below w.heap.size w w' := by
  go_enter Try.func6, Try.ntmps6
  go_wp2_with fail
  refine (known_any _).mono ?_
  rintro e w1 ⟨rfl, hb⟩
  go_wp2_with fail
  go_ret
  exact ⟨rfl, (((Touch.refl [] w).alloc _).trans hb (by simp)).below (Nat.le_refl _) (by simp)⟩

theorem tmod500 (n : Int) : Int.tmod n 500 ≤ 499 := by
  have := Int.tmod_lt_of_pos n (show (0 : Int) < 500 by decide)
  omega

set_option maxRecDepth 100000 in
set_option maxHeartbeats 8000000 in
theorem plays_walk (n : Int) (a0 : Option Addr) (c0 : Nat) (xs : List Act5) (f : Fld) (a : Int) (w : World) (hx : IsActs w a0 xs) (hm : ∀ x ∈ xs, x.f.1.size ≤ 140737488355328 ∧ x.f.2.size ≤ 140737488355328) (hf : OkW f) (ha : 0 ≤ a ∧ a ≤ 18446744073709551615) (hl : xs.length ≤ 40) :
    Calls Try.prog 6 #[.int .i64 n, .slice a0 xs.length c0, .agg #[.string f.1, .string f.2], .int .u64 a] w fun e w' => e = .returned (.bool true) ∧ Below w.heap.size w w' := by
  obtain ⟨f1, f2⟩ := f
  have HX := Lib.hid hx
  have HM := Lib.hid hm
  have HF := Lib.hid hf
  have HA := Lib.hid ha
  have hn5 := tmod500 n
  have hq : Int.tmod a 50 = a % 50 := Int.tmod_eq_emod_of_nonneg ha.1
  have HQ := Lib.hid hq
  obtain ⟨a2, ha2⟩ : ∃ a2 : Int, Int.tmod a 50 = a2 := ⟨_, rfl⟩
  have HA2 := Lib.hid (show 0 ≤ a2 ∧ a2 ≤ 18446744073709551615 by omega)
  have ha0 := ha.1
  have hap : a % 50 = a2 := hq.symm.trans ha2
  obtain ⟨nn, hnn⟩ : ∃ nn : Int, Int.tmod n 500 = nn := ⟨_, rfl⟩
  rw [hnn] at hn5
  clear hx hm hf ha hq
  go_enter Try.func6, Try.ntmps6
  go_wp2_with fail
  have HI := Lib.hid (IsBlk.new w [.string f1, .string f2] 26)
  have HW := Lib.hid ((Touch.refl [] w).alloc (.cells #[.string f1, .string f2] 26))
  have HXW := Lib.hid (HX.out.keep HW.out)
  generalize w.alloc (.cells #[.string f1, .string f2] 26) = wb at *
  generalize w.heap.size = p at *
  refine (known_any _).mono ?_
  rintro e w1 ⟨rfl, hb⟩
  have T1 := Lib.hid hb
  clear hb
  go_wp2_with fail
  refine (new_any nn _).mono ?_
  rintro e w2 ⟨t, F, rfl, h1, h2, h3⟩
  have H1 := Lib.hid h1
  have H2 := Lib.hid h2
  have H3 := Lib.hid h3
  clear h1 h2 h3
  go_wp2_with fail
  refine (newTable_any nn _).mono ?_
  rintro e w3 ⟨r, G, rfl, h1, h2, h3⟩
  have TW := Lib.hid (two_new T1.out H1.out H2.out H3.out h1 h2 h3)
  have hup : up nn ≤ 500 := by unfold up; omega
  clear h1 h2 h3 H1 H2 H3
  go_wp2_with fail
  go_loopw [11] (fun i wr => ∃ (k cap : Nat) (s : TS), k ≤ xs.length ∧ cap ≤ 500 ∧ i = .int .i64 (k : Int) ∧ Two wb wr t r s cap s cap ∧ s.cnt ≤ k) (fun i _ => xs.length - (intOf i).toNat)
  case atStart => exact ⟨0, _, _, by omega, hup, rfl, TW.out, Nat.le_refl _⟩
  case round =>
    obtain ⟨k, cap, s, hk, hcap, rfl, hTW, hcn⟩ := hrel
    have TW := Lib.hid hTW
    have HCN := Lib.hid hcn
    clear hTW hcn
    by_cases hlt : k < xs.length
    · obtain ⟨x, hxk⟩ : ∃ x, xs[k]? = some x := ⟨_, List.getElem?_eq_getElem hlt⟩
      have hxm := HM.out x (List.mem_of_getElem? hxk)
      have hxa := HXW.out.keep TW.out.touch
      rcases hxa with rfl | ⟨bb, off, rfl, hbl, hc⟩
      · simp at hlt
      obtain ⟨d0, d1, d2, d3, hok, hw, hnr⟩ := hc k x hxk
      obtain ⟨what, ⟨x1, x2⟩, m⟩ := x
      simp only at d0 d1 d2 d3 hok hw hnr hxm
      have HOK := Lib.hid hok
      have hk0 : (0 : Int) ≤ (k : Int) := by omega
      have hk1 : (k : Int) < (xs.length : Int) := by omega
      have HQ4 := Lib.hid (show Int.tmod what 4 = what % 4 from Int.tmod_eq_emod_of_nonneg hw.1)
      obtain ⟨mm, hmm⟩ : ∃ mm : Int, Int.tmod m 500 = mm := ⟨_, rfl⟩
      have hm5 : mm ≤ 499 := by rw [← hmm]; exact tmod500 m
      have TB := Lib.hid (TW.out.box [.int .u8 what, .string x1, .string x2, .int .i64 m] 46)
      clear hc hxk hok hnr
      by_cases hbig : x1.size + x2.size ≤ 300
      · have hbb : decide (300 < x1.size + x2.size) = false := by simpa using hbig
        have hsx : sz (x1, x2) ≤ 332 := by simp only [sz]; omega
        have HSX := Lib.hid hsx
        clear hsx
        go_upto_if 47 with fail
        generalize wr.alloc (.cells #[.int .u8 what, .string x1, .string x2, .int .i64 m] 46) = wz at *
        generalize wr.heap.size = q at *
        go_cut [] (fun wx => ∃ s' cap', cap' ≤ 500 ∧ s'.cnt ≤ k + 1 ∧ TwoB wb wx t r s' cap' s' cap' q [.int .u8 what, .string x1, .string x2, .int .i64 m] 46)
        case first =>
          have b1 := TB.out.blk.cell 1; have b2 := TB.out.blk.cell 2; have b3 := TB.out.blk.cell 3; simp only [List.getElem?_cons_zero, List.getElem?_cons_succ] at b1 b2 b3
          have hbq := TB.out.blk.lt
          by_cases h3 : what % 4 = 3
          · have hq5 : (what % 4 == 3) = true := by simp [h3]
            clear h3
            go_wp2_with fail
            go_region_held3 (fun w' => w'.cell? ⟨q, 3, none⟩ = some (.int .i64 m)) (go_keep) (first | (go_at_call 20; refine ((TB.out.keep ((Touch.refl [] _).drew)).resT mm (by omega) (by omega) (by have := HCN.out; omega)).mono ?_; rintro e w4 ⟨rfl, hB⟩; have TB4 := Lib.hid hB; have b3 := TB4.out.blk.cell 3; simp only [List.getElem?_cons_zero, List.getElem?_cons_succ] at b3; clear hB) | (go_at_call 21; refine (TB4.out.resR mm (by omega) (by omega) (by have := HCN.out; omega)).mono ?_; rintro e w5 ⟨rfl, hB⟩; have TB5 := Lib.hid hB; have b3 := TB5.out.blk.cell 3; simp only [List.getElem?_cons_zero, List.getElem?_cons_succ] at b3; clear hB))
            all_goals
              go_wp2_with fail
              go_meet
              exact ⟨_, _, by unfold up; omega, by show s.cnt ≤ _; have := HCN.out; omega, TB5.out⟩
          · have hq5 : (what % 4 == 3) = false := by simpa using h3
            clear h3
            · go_wp2_with fail
              go_region_held3 (fun w' => w'.cell? ⟨q, 1, none⟩ = some (.string x1) ∧ w'.cell? ⟨q, 2, none⟩ = some (.string x2)) (go_keep) (first | (go_at_call 12; refine (TB.out.addT (wr' := wz.drew.alloc (.cells #[.string x1, .string x2] 26)) (by (repeat (first | exact Touch.refl _ _ | refine Touch.drewN ?_ _ | refine Touch.drew ?_ | refine Touch.alloc ?_ _))) _ [(x1, x2)] (rd_new _ [(x1, x2)] rfl rfl) (by intro g hg; have := (mem_own hg).1; simp at this; omega) (by omega) (by have := HCN.out; simp; omega) (by intro y hy; simp only [List.mem_cons, List.not_mem_nil, or_false] at hy; subst hy; have := HSX.out; omega)).mono ?_; rw [show goneA cap s [(x1, x2)] = gone1 cap s (x1, x2) from by simp [goneA], show addA cap s [(x1, x2)] = add1 cap s (x1, x2) from rfl]; rintro e w4 ⟨rfl, hB⟩; have TB4 := Lib.hid hB; have b1 := TB4.out.blk.cell 1; have b2 := TB4.out.blk.cell 2; simp only [List.getElem?_cons_zero, List.getElem?_cons_succ] at b1 b2; clear hB) | (go_at_call 11; refine (TB4.out.addR (x1, x2) (by have := HSX.out; omega) (by omega) (by have := HCN.out; omega)).mono ?_; rintro e w5 ⟨rfl, hB⟩; have TB5 := Lib.hid hB; have b1 := TB5.out.blk.cell 1; have b2 := TB5.out.blk.cell 2; simp only [List.getElem?_cons_zero, List.getElem?_cons_succ] at b1 b2; clear hB))
              all_goals
                go_wp2_with fail
                go_meet
                exact ⟨_, _, by omega, by have := cnt_add1 cap s (x1, x2); have := HCN.out; omega, TB5.out⟩
        case rest =>
          obtain ⟨s', cap', hcap', hcn', hB⟩ := hcut
          have TB6 := Lib.hid hB
          have HCN' := Lib.hid hcn'
          have i0 := (HI.out.touch TB6.out.two.touch (by simp)).cell 0
          have i1 := (HI.out.touch TB6.out.two.touch (by simp)).cell 1
          have hpl := (HI.out.touch TB6.out.two.touch (by simp)).lt
          simp only [List.getElem?_cons_zero, List.getElem?_cons_succ] at i0 i1
          clear hB hcn' d0 d1 d2 d3 hbl
          go_wp2_with fail
          refine (TB6.out.alike (f1, f2) HF.out a HA.out (by have := HCN'.out; omega) (by omega)).mono ?_
          rintro e w7 ⟨rfl, hB⟩
          have TB7 := Lib.hid hB
          have b1 := TB7.out.blk.cell 1
          have b2 := TB7.out.blk.cell 2
          have hbq := TB7.out.blk.lt
          simp only [List.getElem?_cons_zero, List.getElem?_cons_succ] at b1 b2
          clear hB i0 i1 hpl
          go_wp2_with fail
          refine (TB7.out.alike (x1, x2) HOK.out a2 HA2.out (by have := HCN'.out; omega) (by omega)).mono ?_
          rintro e w8 ⟨rfl, hB⟩
          have TB8 := Lib.hid hB
          clear hB b1 b2 hbq
          have hsz : decide (cap' < szL s'.L) = false := by
            obtain ⟨_, _, _, _, _, _, _, h6, _⟩ := TB8.out
            have := h6.2
            simp; omega
          go_wp2_with fail
          refine TB8.out.size.mono ?_
          rintro e w9 ⟨rfl, rfl⟩
          go_wp2_with fail
          refine TB8.out.capOf.mono ?_
          rintro e w9 ⟨rfl, rfl⟩
          go_wp2_with fail
          go_roundw
          case rel => exact ⟨k + 1, cap', s', by omega, hcap', by go_num, TB8.out.two, HCN'.out⟩
          case measure => simp [intOf]; omega
      · have hbb : decide (300 < x1.size + x2.size) = true := by simp; omega
        go_wp2_with fail
        go_ret
        exact ⟨rfl, ((HW.out.trans TW.out.touch (by simp)).alloc _).below (Nat.le_refl _) (by simp)⟩
    · obtain rfl : k = xs.length := by omega
      go_wp2_with fail
      go_ret
      exact ⟨rfl, (HW.out.trans TW.out.touch (by simp)).below (Nat.le_refl _) (by simp)⟩
end Go.Proofs.Ytfkmcbkhodppmaa
