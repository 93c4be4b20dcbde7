/- The two tables beside each other; the walk of the statement on many entries at once. Conditions: the slice can be read. -/
import Derived.Test.YtfkmcbkhodppmaaX
import Derived.Test.YtfkmcbkhodppmaaK
import Derived.Test.YtfkmcbkhodppmaaV
namespace Go.Proofs.Ytfkmcbkhodppmaa
open Go.RowKit Go.Maps
set_option linter.unusedVariables false

def Two (w wr : World) (t r : Nat) (s1 : TS) (c1 : Nat) (s2 : TS) (c2 : Nat) : Prop :=
  ∃ F G, IsTab wr t F s1 c1 ∧ IsRef wr r G s2 c2 ∧ (∀ g ∈ F, w.heap.size ≤ g ∧ g ∉ G) ∧ (∀ g ∈ G, w.heap.size ≤ g) ∧ Touch [] w wr ∧ s1.ok c1 ∧ s2.ok c2
section
variable {w wr wr' : World} {t r c1 c2 : Nat} {s1 s2 : TS}
theorem Two.keep (h : Two w wr t r s1 c1 s2 c2) (hk : Touch [] wr wr') : Two w wr' t r s1 c1 s2 c2 :=
  let ⟨F, G, h1, h2, h3, h4, h5, h6⟩ := h
  ⟨F, G, h1.keep hk, h2.keep hk, h3, h4, h5.trans hk (by simp), h6⟩
theorem Two.touch (h : Two w wr t r s1 c1 s2 c2) : Touch [] w wr := let ⟨_, _, _, _, _, _, h5, _⟩ := h; h5
theorem Two.below (h : Two w wr t r s1 c1 s2 c2) : Below w.heap.size w wr := h.touch.below (Nat.le_refl _) (by simp)
theorem Two.addT (h : Two w wr t r s1 c1 s2 c2) (hk : Touch [] wr wr') (x : Value) (l : List Fld) (hx : Rd wr' 2 x l.length (cf l)) (hxo : ∀ g ∈ own x, g < w.heap.size ∨ wr.heap.size ≤ g) (hcap : c1 ≤ 549755813888)
    (hcn : s1.cnt + l.length ≤ 549755813888) (hl : ∀ y ∈ l, sz y ≤ 549755813888) :
    Calls Try.prog 12 #[.pointer (some ⟨t, 0, none⟩), x] wr' fun e w' => e = .returned (.int .i64 (goneA c1 s1 l)) ∧ Two w w' t r (addA c1 s1 l) c1 s2 c2 := by
  obtain ⟨F, G, h1, h2, h3, h4, h5, h6, h7⟩ := h
  refine (add_any (h1.keep hk) x l hx (fun g hg hm => ?_) h6 hcap hcn hl).mono ?_
  · have := (h3 g hm).1
    have := h1.lt g hm
    rcases hxo g hg with h | h <;> omega
  · rintro e w' ⟨rfl, F', k1, k2, k3⟩
    have hs1 := hk.size
    have hs2 := h5.size
    refine ⟨rfl, F', G, k1, (h2.keep hk).touch k2 (fun g hg hm => (h3 g hm).2 hg), fun g hg => ?_, h4, (h5.trans hk (by simp)).trans k2 (fun g hg => .inr (h3 g hg).1), (ok_addA l h6).1, h7⟩
    rcases k3 g hg with h | h
    · exact h3 g h
    · exact ⟨by omega, fun hm => by have := h2.lt g hm; omega⟩
theorem Two.addR (h : Two w wr t r s1 c1 s2 c2) (y : Fld) (hy : sz y ≤ 1099511627776) (hcap : c2 ≤ 549755813888) (hcn : s2.cnt < 1099511627776) :
    Calls Try.prog 11 #[.pointer (some ⟨r, 0, none⟩), .agg #[.string y.1, .string y.2]] wr fun e w' => e = .returned (.int .i64 (gone1 c2 s2 y)) ∧ Two w w' t r s1 c1 (add1 c2 s2 y) c2 := by
  obtain ⟨F, G, h1, h2, h3, h4, h5, h6, h7⟩ := h
  refine (refAdd_any h2 y hy (by omega) hcn (by have := h7.2; omega)).mono ?_
  rintro e w' ⟨rfl, G', k1, k2, k3⟩
  have hs2 := h5.size
  refine ⟨rfl, F, G', h1.touch k2 (fun g hg hm => (h3 g hg).2 hm), k1, fun g hg => ⟨(h3 g hg).1, fun hm => ?_⟩, fun g hg => ?_, h5.trans k2 (fun g hg => .inr (h4 g hg)), h6, ok_add1 h7 y⟩
  · rcases k3 g hm with h | h
    · exact (h3 g hg).2 h
    · have := h1.lt g hg; omega
  · rcases k3 g hg with h | h
    · exact h4 g h
    · omega
theorem Two.resT (h : Two w wr t r s1 c1 s2 c2) (n : Int) (hn : n ≤ 549755813888) (hcap : c1 ≤ 549755813888) (hcn : s1.cnt ≤ 549755813888) :
    Calls Try.prog 20 #[.pointer (some ⟨t, 0, none⟩), .int .i64 n] wr fun e w' => e = .returned (.int .i64 (fitN s1.L (up n))) ∧ Two w w' t r (setC s1 (up n)) (up n) s2 c2 := by
  obtain ⟨F, G, h1, h2, h3, h4, h5, h6, h7⟩ := h
  refine (resize_any h1 n (by omega) (by omega) (by have := h6.2; omega)).mono ?_
  rintro e w' ⟨rfl, F', k1, k2, k3⟩
  refine ⟨rfl, F', G, k1, h2.touch k2 (fun g hg hm => (h3 g hm).2 hg), fun g hg => h3 g (k3 g hg), h4, h5.trans k2 (fun g hg => .inr (h3 g hg).1), ⟨?_, ?_⟩, h7⟩
  · have := fitL_len s1.L (up n)
    have := h6.1
    show (fitL s1.L (up n)).length ≤ s1.cnt
    omega
  · have := fitL_sz s1.L (up n) (by omega)
    show szL (fitL s1.L (up n)) ≤ up n
    omega
theorem Two.resR (h : Two w wr t r s1 c1 s2 c2) (n : Int) (hn : n ≤ 549755813888) (hcap : c2 ≤ 549755813888) (hcn : s2.cnt ≤ 549755813888) :
    Calls Try.prog 21 #[.pointer (some ⟨r, 0, none⟩), .int .i64 n] wr fun e w' => e = .returned (.int .i64 (fitN s2.L (up n))) ∧ Two w w' t r s1 c1 (setC s2 (up n)) (up n) := by
  obtain ⟨F, G, h1, h2, h3, h4, h5, h6, h7⟩ := h
  refine (refResize_any h2 n (by omega) (by omega) (by have := h7.2; omega)).mono ?_
  rintro e w' ⟨rfl, G', k1, k2, k3⟩
  refine ⟨rfl, F, G', h1.touch k2 (fun g hg hm => (h3 g hg).2 hm), k1, fun g hg => ⟨(h3 g hg).1, fun hm => (h3 g hg).2 (k3 g hm)⟩, fun g hg => h4 g (k3 g hg), h5.trans k2 (fun g hg => .inr (h4 g hg)), h6, ?_, ?_⟩
  · have := fitL_len s2.L (up n)
    have := h7.1
    show (fitL s2.L (up n)).length ≤ s2.cnt
    omega
  · have := fitL_sz s2.L (up n) (by omega)
    show szL (fitL s2.L (up n)) ≤ up n
    omega
theorem Two.alike {s : TS} {c : Nat} (h : Two w wr t r s c s c) (hk : Touch [] wr wr') (f : Fld) (hf : OkW f) (a : Int) (ha : 0 ≤ a ∧ a ≤ 18446744073709551615) (hc : s.cnt ≤ 549755813888) (hcap : c ≤ 549755813888) :
    Calls Try.prog 13 #[.pointer (some ⟨t, 0, none⟩), .pointer (some ⟨r, 0, none⟩), .agg #[.string f.1, .string f.2], .int .u64 a] wr' fun e w' => e = .returned (.bool true) ∧ Two w w' t r s c s c := by
  obtain ⟨F, G, h1, h2, h3, h4, h5, h6, h7⟩ := h
  refine (alike_any (h1.keep hk) (h2.keep hk) f hf a ha hc (by have := h6.2; omega)).mono ?_
  rintro e w' ⟨rfl, k⟩
  exact ⟨rfl, F, G, (h1.keep hk).keep k, (h2.keep hk).keep k, h3, h4, (h5.trans hk (by simp)).trans k (by simp), h6, h7⟩
end
theorem two_new {w w1 w2 w3 : World} {t r : Nat} {F G : List Nat} {c : Nat} (h : Touch [] w w1) (h1 : IsTab w2 t F ⟨[], 0⟩ c) (h2 : ∀ g ∈ F, w1.heap.size ≤ g) (h3 : Touch [] w1 w2) (k1 : IsRef w3 r G ⟨[], 0⟩ c) (k2 : ∀ g ∈ G, w2.heap.size ≤ g) (k3 : Touch [] w2 w3) :
    Two w w3 t r ⟨[], 0⟩ c ⟨[], 0⟩ c := by
  have s1 := h.size
  have s2 := h3.size
  refine ⟨F, G, h1.keep k3, k1, fun g hg => ⟨by have := h2 g hg; omega, fun hm => by have := k2 g hm; have := h1.lt g hg; omega⟩, fun g hg => by have := k2 g hg; omega, (h.trans h3 (by simp)).trans k3 (by simp), ⟨Nat.le_refl _, Nat.zero_le _⟩, ⟨Nat.le_refl _, Nat.zero_le _⟩⟩

set_option maxRecDepth 100000 in
theorem add_nil (w : World) (t : Nat) (a : Option Addr) (c : Nat) : Calls Try.prog 12 #[.pointer (some ⟨t, 0, none⟩), .slice a 0 c] w fun e w' => e = .returned (.int .i64 0) ∧ w = w' := by
  go_enter Try.func12, Try.ntmps12
  go_wp2_with fail
  go_loopw [5, 11] (fun i5 i wr => i5 = .int .i64 0 ∧ i = .int .i64 0 ∧ w = wr) (fun _ i _ => 1 - (intOf i).toNat)
  case atStart => exact ⟨rfl, rfl, rfl⟩
  case round =>
    obtain ⟨rfl, rfl, rfl⟩ := hrel
    go_wp2_with fail
    go_ret
    exact ⟨rfl, rfl⟩

set_option maxRecDepth 100000 in
theorem many_many (n : Int) (a : Option Addr) (c : Nat) (l : List Fld) (w : World) (h : 20 < l.length) :
    Calls Try.prog 3 #[.int .u16 n, .slice a l.length c] w fun e w' => e = .returned (.bool true) ∧ Below w.heap.size w w' := by
  go_enter Try.func3, Try.ntmps3
  go_wp2_with fail
  refine (known_any _).mono ?_
  rintro e w1 ⟨rfl, hb⟩
  go_wp2_with fail
  go_ret
  exact ⟨rfl, hb.below (Nat.le_refl _) (by simp)⟩

set_option maxRecDepth 100000 in
set_option maxHeartbeats 8000000 in
theorem many_walk (n : Int) (a : Option Addr) (c1 : Nat) (l : List Fld) (w : World) (hn : 0 ≤ n ∧ n ≤ 65535) (hx : Rd w 2 (.slice a l.length c1) l.length (cf l)) (hm : ∀ x ∈ l, x.1.size ≤ 140737488355328 ∧ x.2.size ≤ 140737488355328) (hl : l.length ≤ 20) :
    Calls Try.prog 3 #[.int .u16 n, .slice a l.length c1] w fun e w' => e = .returned (.bool true) ∧ Below w.heap.size w w' := by
  obtain ⟨c, rfl⟩ := Int.eq_ofNat_of_zero_le hn.1
  have hc : c ≤ 65535 := by omega
  have HX := Lib.hid hx
  have HM := Lib.hid hm
  have HOX := Lib.hid (show ∀ g ∈ own (.slice a l.length c1), g < w.heap.size ∨ l.length = 0 by
    intro g hg
    rcases hx.cases with ⟨_, _, he, h0, _⟩ | ⟨g', o', c', he, _, h2, _⟩
    · exact .inr h0
    · simp at he
      obtain ⟨rfl, rfl⟩ := he
      have := (mem_own hg).1
      simp at this
      by_cases h0 : l.length = 0
      · exact .inr h0
      · exact .inl (by rw [this]; exact h2 (by omega)))
  clear hn hx hm
  go_enter Try.func3, Try.ntmps3
  go_wp2_with fail
  refine (known_any _).mono ?_
  rintro e w1 ⟨rfl, hb⟩
  have T1 := Lib.hid hb
  clear hb
  go_wp2_with fail
  go_loopw [5] (fun i wr => ∃ k : Nat, k ≤ l.length ∧ i = .int .i64 (k : Int) ∧ Touch [] w wr ∧ ∀ i x, i < k → l[i]? = some x → x.1.size + x.2.size ≤ 200) (fun i _ => l.length - (intOf i).toNat)
  case atStart => exact ⟨0, by omega, rfl, T1.out, by omega⟩
  case round =>
    obtain ⟨k, hk, rfl, hT, hsm⟩ := hrel
    have HT := Lib.hid hT
    have HSM := Lib.hid hsm
    clear hT hsm
    by_cases hlt : k < l.length
    · obtain ⟨x, hxk⟩ : ∃ x, l[k]? = some x := ⟨_, List.getElem?_eq_getElem hlt⟩
      obtain ⟨g, o, rfl⟩ := HX.out.some (by omega)
      obtain ⟨d0, d1, hg⟩ := (HX.out.touch HT.out (by simp)).two rfl k x hxk
      have hxm := HM.out x (List.mem_of_getElem? hxk)
      obtain ⟨x1, x2⟩ := x
      simp only at d0 d1 hxm
      have hk0 : (0 : Int) ≤ (k : Int) := by omega
      have hk1 : (k : Int) < (l.length : Int) := by omega
      have HXK := Lib.hid hxk
      clear hxk
      by_cases hbig : x1.size + x2.size ≤ 200
      · have hbb : decide (200 < x1.size + x2.size) = false := by simpa using hbig
        go_wp2_with fail
        go_quiet (fail)
        go_wp2_with fail
        go_roundw
        case rel =>
          refine ⟨k + 1, by omega, by go_num, HT.out.drewN nq, fun i y hi hy => ?_⟩
          by_cases e : i = k
          · subst e
            have := HXK.out
            rw [this] at hy
            simp at hy
            subst hy
            exact hbig
          · exact HSM.out i y (by omega) hy
        case measure => simp [intOf]; omega
      · have hbb : decide (200 < x1.size + x2.size) = true := by simp; omega
        go_wp2_with fail
        go_quiet (fail)
        go_wp2_with fail
        go_ret
        exact ⟨rfl, (HT.out.drewN nq).below (Nat.le_refl _) (by simp)⟩
    · obtain rfl : k = l.length := by omega
      have HSZ := Lib.hid (show ∀ y ∈ l, sz y ≤ 232 from fun y hy => by
        obtain ⟨i, hi⟩ := List.getElem?_of_mem hy
        have := HSM.out i y (List.getElem?_eq_some_iff.1 hi).1 hi
        unfold sz
        omega)
      clear HSM
      go_wp2_with fail
      refine (new_any (c : Int) _).mono ?_
      rintro e w2 ⟨t, F, rfl, h1, h2, h3⟩
      have H1 : Hid (IsTab w2 t F ⟨[], 0⟩ c) := Lib.hid (by have := h1; simpa [up] using this)
      have H2 := Lib.hid h2
      have H3 := Lib.hid h3
      clear h1 h2 h3
      go_wp2_with fail
      refine (newTable_any (c : Int) _).mono ?_
      rintro e w3 ⟨r, G, rfl, h1, h2, h3⟩
      have hTW : Two w w3 t r ⟨[], 0⟩ c ⟨[], 0⟩ c := two_new HT.out H1.out H2.out H3.out (by simpa [up] using h1) h2 h3
      have TW := Lib.hid hTW
      clear h1 h2 h3 hTW H1 H2 H3
      go_wp2_with fail
      obtain ⟨wo, rfl⟩ : ∃ wo : World, wo = wr := ⟨_, rfl⟩
      go_loopw [9, 8] (fun i gsum wr => ∃ k : Nat, k ≤ l.length ∧ i = .int .i64 (k : Int) ∧ gsum = .int .i64 (goneA c ⟨[], 0⟩ (l.take k) : Int) ∧ Two w wr t r ⟨[], 0⟩ c (addA c ⟨[], 0⟩ (l.take k)) c) (fun i _ _ => l.length - (intOf i).toNat)
      case atStart => exact ⟨0, by omega, rfl, rfl, TW.out⟩
      case round =>
        obtain ⟨k, hk, rfl, rfl, hTW⟩ := hrel
        have TW := Lib.hid hTW
        clear hTW
        have hgl := goneA_le c (l.take k) ⟨[], 0⟩
        have hcl := (ok_addA (l.take k) (s := ⟨[], 0⟩) (cap := c) ⟨Nat.le_refl _, Nat.zero_le _⟩).2
        have htl : (l.take k).length = k := by simp; omega
        rw [htl] at hgl hcl
        simp only [List.length_nil] at hgl hcl
        obtain ⟨gs, hgs⟩ : ∃ gs, goneA c ⟨[], 0⟩ (l.take k) = gs := ⟨_, rfl⟩
        rw [hgs] at hgl ⊢
        have HGS := Lib.hid hgs
        have hg1 : (gs : Int) ≤ 20 := by omega
        have HCL := Lib.hid hcl
        clear hgs hgl hcl htl
        by_cases hlt : k < l.length
        · obtain ⟨x, hxk⟩ : ∃ x, l[k]? = some x := ⟨_, List.getElem?_eq_getElem hlt⟩
          obtain ⟨g, o, rfl⟩ := HX.out.some (by omega)
          obtain ⟨d0, d1, hg⟩ := (HX.out.touch TW.out.touch (by simp)).two rfl k x hxk
          have hsx := HSZ.out x (List.mem_of_getElem? hxk)
          have htk := addA_take c ⟨[], 0⟩ l k x hxk
          have hgt := goneA_take c ⟨[], 0⟩ l k x hxk
          have hgle := gone1_le c (addA c ⟨[], 0⟩ (l.take k)) x
          have hok := (ok_addA (l.take k) (s := ⟨[], 0⟩) (cap := c) ⟨Nat.le_refl _, Nat.zero_le _⟩).1.1
          rw [HGS.out] at hgt
          obtain ⟨g1, hg1e⟩ : ∃ g1, gone1 c (addA c ⟨[], 0⟩ (l.take k)) x = g1 := ⟨_, rfl⟩
          rw [hg1e] at hgt hgle
          have hg2 : (gs : Int) + (g1 : Int) ≤ 100 := by have := HCL.out; omega
          have C11 := Lib.hid (TW.out.addR x (by omega) (by omega) (by have := HCL.out; omega))
          have HE := Lib.hid hg1e
          have HTK := Lib.hid htk
          have HGT := Lib.hid hgt
          obtain ⟨x1, x2⟩ := x
          simp only at d0 d1
          have hk0 : (0 : Int) ≤ (k : Int) := by omega
          have hk1 : (k : Int) < (l.length : Int) := by omega
          clear hxk htk hgt hgle hok hg1e hsx
          go_wp2_with fail
          refine C11.out.mono ?_
          rw [HE.out, ← HTK.out]
          rintro e w4 ⟨rfl, hTW⟩
          have TW4 := Lib.hid hTW
          clear hTW d0 d1 hg
          go_wp2_with fail
          go_roundw
          case rel => exact ⟨k + 1, by omega, by go_num, by rw [HGT.out]; simp, TW4.out⟩
          case measure => simp [intOf]; omega
        · obtain rfl : k = l.length := by omega
          have TW := Lib.hid (show Two w wr t r ⟨[], 0⟩ c (addA c ⟨[], 0⟩ l) c by simpa using TW.out)
          have HGS := Lib.hid (show goneA c ⟨[], 0⟩ l = gs by simpa using HGS.out)
          have C12 : Hid (Calls Try.prog 12 #[.pointer (some ⟨t, 0, none⟩), .slice a l.length c1] wr fun e w' => e = .returned (.int .i64 (goneA c ⟨[], 0⟩ l)) ∧ Two w w' t r (addA c ⟨[], 0⟩ l) c (addA c ⟨[], 0⟩ l) c) := Lib.hid (by
            by_cases h0 : l.length = 0
            · obtain rfl : l = [] := List.eq_nil_of_length_eq_zero h0
              refine (add_nil wr t a c1).mono ?_
              rintro e w' ⟨rfl, rfl⟩
              exact ⟨rfl, TW.out⟩
            · exact TW.out.addT (Touch.refl [] _) (.slice a l.length c1) l (HX.out.touch TW.out.touch (by simp)) (fun g hg => .inl ((HOX.out g hg).resolve_right h0)) (by omega) (by simp; omega) (fun y hy => by have := HSZ.out y hy; omega))
          go_wp2_with fail
          refine C12.out.mono ?_
          rw [HGS.out]
          rintro e w4 ⟨rfl, hTW⟩
          have TW4 := Lib.hid hTW
          clear hTW
          go_wp2_with fail
          refine (TW4.out.alike (Touch.refl [] _) (⟨#[97]⟩, ⟨#[]⟩) ⟨by decide, by decide⟩ 3 (by omega) (by have := HCL.out; simp at this; omega) (by omega)).mono ?_
          rintro e w5 ⟨rfl, hTW⟩
          have TW5 := Lib.hid hTW
          clear hTW
          go_wp2_with fail
          go_ret
          exact ⟨rfl, TW5.out.below⟩
end Go.Proofs.Ytfkmcbkhodppmaa
