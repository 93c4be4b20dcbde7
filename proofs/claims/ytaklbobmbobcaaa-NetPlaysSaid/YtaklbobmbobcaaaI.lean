/- The walk of the statement on a pipe's scripts. Conditions: the acts can be read. -/
import Derived.Test.YtaklbobmbobcaaaH
import Derived.Deep.RegionLaw
import Derived.Deep.LoopGhost
namespace Go.Proofs.Ytaklbobmbobcaaa
open Go.RowKit

/-- The pipe between two rounds. -/
def PipeAt (w wr : World) (p : Nat) (s : List UInt8) : Prop := ∃ F, IsPipe wr p F s ∧ (∀ g ∈ F, w.heap.size ≤ g) ∧ Touch [] w wr
theorem PipeAt.keep {w wr w' : World} {p : Nat} {s : List UInt8} (h : PipeAt w wr p s) (hk : Touch [] wr w') : PipeAt w w' p s :=
  let ⟨F, h1, h2, h3⟩ := h
  ⟨F, h1.keep hk, h2, h3.trans hk (by simp)⟩
theorem PipeAt.below {w wr : World} {p : Nat} {s : List UInt8} (h : PipeAt w wr p s) : Below w.heap.size w wr :=
  let ⟨_, _, _, h3⟩ := h
  h3.below (Nat.le_refl _) (by simp)
/-- A pipe, and beside it a row of bytes of the call's own. -/
def PB (w wq : World) (p : Nat) (s : List UInt8) (v : Value) (n : Nat) : Prop :=
  ∃ (F : List Nat) (ys : List Int), ys.length = n ∧ Sl wq 5 1 v n (ys.map (Value.int .u8)) ∧ IsPipe wq p F s ∧ (∀ g ∈ F, w.heap.size ≤ g) ∧ (∀ g ∈ own v, g ∉ F ∧ w.heap.size ≤ g) ∧ Touch [] w wq
section
variable {w wq : World} {p n : Nat} {s : List UInt8} {v : Value}
theorem PB.pipe (h : PB w wq p s v n) : PipeAt w wq p s := let ⟨F, _, _, _, h1, h2, _, h3⟩ := h; ⟨F, h1, h2, h3⟩
theorem PB.lies {a : Option Addr} {m c : Nat} (h : PB w wq p s (.slice a m c) n) (h0 : 0 < n) : ∃ g o, a = some ⟨g, o, none⟩ := by
  obtain ⟨F, ys, hy, h1, _⟩ := h
  rcases h1.cases with ⟨_, h2, _⟩ | ⟨g', off', cap', he, _⟩
  · omega
  · simp at he
    exact ⟨_, _, he.1⟩
theorem PB.cell {g off c : Nat} (h : PB w wq p s (.slice (some ⟨g, off, none⟩) n c) n) (j : Nat) (hj : j < n) : (∃ y : Int, wq.cell? ⟨g, off + j, none⟩ = some (.int .u8 y)) ∧ wq.frozen? ⟨g, off + j, none⟩ = false := by
  obtain ⟨F, ys, hy, h1, _⟩ := h
  rcases h1.cases with ⟨h0, _⟩ | ⟨g', off', cap', he, hnc, _, _, hcell, hfr⟩
  · simp at h0
  simp at he
  obtain ⟨⟨rfl, rfl⟩, rfl⟩ := he
  refine ⟨⟨ys.getD j 0, ?_⟩, hfr (by omega) _⟩
  rw [hcell j (by omega)]
  simp [show j < ys.length from by omega]
theorem PB.set {g off c : Nat} (h : PB w wq p s (.slice (some ⟨g, off, none⟩) n c) n) (j : Nat) (hj : j < n) (y : Int) : PB w (wq.setCell ⟨g, off + j, none⟩ (.int .u8 y)) p s (.slice (some ⟨g, off, none⟩) n c) n := by
  obtain ⟨F, ys, hy, h1, h2, h3, h4, h5⟩ := h
  have hc : 0 < c := by
    rcases h1.cases with ⟨h0, _⟩ | ⟨g', off', cap', he, hnc, _⟩
    · simp at h0
    · simp at he
      omega
  have hg := h4 g (by rw [own_some _ _ _ hc]; simp)
  refine ⟨F, ys.set j y, by simpa using hy, ?_, h2.touch ((Touch.refl [g] _).set (p := ⟨g, off + j, none⟩) (.inl (by simp)) _) (fun r hr hm => by simp at hm; exact hg.1 (hm ▸ hr)), h3, h4, h5.set (.inr hg.2) _⟩
  rw [List.map_set]
  exact h1.set j _
end
theorem cb_ints (b : List UInt8) : cb b = (b.map fun x => (x.toNat : Int)).map (Value.int .u8) := by simp [cb]
theorem at_push {w w0 wk : World} {p : Nat} {s b : List UInt8} {a : Option Addr} {c : Nat} (h0 : PipeAt w w0 p s) (hk : Touch [] w0 wk) (hx : Sl wk 5 1 (.slice a b.length c) b.length (cb b)) (ho : ∀ g ∈ own (.slice a b.length c), w0.heap.size ≤ g) (hl : s.length + b.length ≤ 1099511627776) :
    Calls Try.prog 8 #[.pointer (some ⟨p, 0, none⟩), .slice a b.length c] wk fun e w' => e = .returned (.tuple #[]) ∧ (convert 26 9 (.slice a b.length c)).run Try.prog w' = .ok (.string (str b)) w' ∧ PB w w' p (s ++ b) (.slice a b.length c) b.length := by
  obtain ⟨F, h1, h2, h3⟩ := h0
  have hlt := h1.lt
  refine (push_any wk p F s b _ (h1.keep hk) hx.rd hl).mono ?_
  rintro e w' ⟨rfl, F', k1, k2, k3⟩
  have hs := h3.size
  have hs2 := hk.size
  have hS : Sl w' 5 1 (.slice a b.length c) b.length (cb b) := hx.touch k2 (fun g hg hm => by have := ho g hg; have := hlt g hm; omega)
  refine ⟨rfl, conv_str _ _ b hS.rd, F', b.map fun x => (x.toNat : Int), by simp, by rw [← cb_ints]; exact hS, k1, fun g hg => (k3 g hg).elim (h2 g) (fun h => by omega), fun g hg => ⟨fun hm => ?_, by have := ho g hg; omega⟩, (h3.trans hk (by simp)).trans k2 (fun g hg => .inr (h2 g hg))⟩
  have e1 := ho g hg
  have e2 := hx.lt g hg
  rcases k3 g hm with h | h
  · have := hlt g h
    omega
  · omega
theorem at_pull {w wk : World} {p : Nat} {s : List UInt8} (h : PipeAt w wk p s) (n : Int) (hl : s.length ≤ 1099511627776) :
    Calls Try.prog 9 #[.pointer (some ⟨p, 0, none⟩), .int .i64 n] wk fun e w' => ∃ a c, e = .returned (.slice a (s.take (pullN n s.length)).length c) ∧ (convert 26 9 (.slice a (s.take (pullN n s.length)).length c)).run Try.prog w' = .ok (.string (str (s.take (pullN n s.length)))) w' ∧ PipeAt w w' p (s.drop (pullN n s.length)) := by
  obtain ⟨F, h1, h2, h3⟩ := h
  refine (pull_any wk p F s n h1 hl).mono ?_
  rintro e w' ⟨F', ⟨a, c, rfl, r1, r2, r3⟩, k1, k3⟩
  have hs := h3.size
  exact ⟨a, c, rfl, conv_str _ _ _ r1.rd, F', k1, fun g hg => (k3 g hg).elim (h2 g) (fun h => by omega), h3.trans r2 (fun g hg => .inr (h2 g hg))⟩
theorem at_pullN {w wk : World} {p : Nat} {s : List UInt8} (h : PipeAt w wk p s) (n : Int) (m : Nat) (hm : pullN n s.length = m) (hl : s.length ≤ 1099511627776) :
    Calls Try.prog 9 #[.pointer (some ⟨p, 0, none⟩), .int .i64 n] wk fun e w' => ∃ a c, e = .returned (.slice a m c) ∧ (convert 26 9 (.slice a m c)).run Try.prog w' = .ok (.string (str (s.take m))) w' ∧ PipeAt w w' p (s.drop m) := by
  have h1 := at_pull h n hl
  have h2 : (s.take m).length = m := by rw [← hm]; unfold pullN; simp
  rw [hm, h2] at h1
  exact h1
theorem at_len {w wk : World} {p : Nat} {s : List UInt8} (h : PipeAt w wk p s) : Calls Try.prog 10 #[.pointer (some ⟨p, 0, none⟩)] wk fun e w' => e = .returned (.int .i64 s.length) ∧ wk = w' := by
  obtain ⟨F, h1, _⟩ := h
  exact len_any wk p F s h1

theorem pipe_many (a0 : Option Addr) (cap : Nat) (xs : List Act3) (w : World) (hl : 60 < xs.length) :
    Calls Try.prog 3 #[.slice a0 xs.length cap] w fun e w' => e = .returned (.bool true) ∧ Below w.heap.size w w' := by
  go_enter Try.func3, Try.ntmps3
  go_wp2_with fail
  refine (known_any _).mono ?_
  rintro e w1 ⟨rfl, hb⟩
  go_wp2_with fail
  go_ret
  exact ⟨rfl, hb.below (Nat.le_refl _) (by simp)⟩

set_option maxRecDepth 100000 in
set_option maxHeartbeats 4000000 in
theorem pipe_walk (a0 : Option Addr) (cap : Nat) (xs : List Act3) (w : World) (hx : IsActs w a0 xs) (hl : xs.length ≤ 60) :
    Calls Try.prog 3 #[.slice a0 xs.length cap] w fun e w' => e = .returned (.bool true) ∧ Below w.heap.size w w' := by
  obtain ⟨i0, hi, hz0, hz1, hz2⟩ := info_parts info5
  have HX := Lib.hid hx
  clear hx
  go_enter Try.func3, Try.ntmps3
  go_wp2_with fail
  refine (known_any _).mono ?_
  rintro e w1 ⟨rfl, hb⟩
  have T1 := Lib.hid hb
  clear hb
  go_wp2_with fail
  refine (newPipe_any _).mono ?_
  rintro e w2 ⟨rfl, hP, hT⟩
  have A2 : Hid (PipeAt w w2 w1.heap.size []) := Lib.hid ⟨_, hP, fun g hg => by simp at hg; have := T1.out.size; omega, T1.out.trans hT (by simp)⟩
  clear hP hT
  generalize w1.heap.size = p at *
  go_wp2_with fail
  go_loopw [5, 4] (fun i sw wr => ∃ (k : Nat) (s : List UInt8), k ≤ xs.length ∧ i = .int .i64 (k : Int) ∧ sw = .string (str s) ∧ s.length ≤ 50 * k ∧ PipeAt w wr p s) (fun i _ _ => xs.length - (intOf i).toNat)
  case atStart => exact ⟨0, [], by omega, rfl, rfl, by simp, A2.out⟩
  case round =>
    obtain ⟨k, s, hk, rfl, rfl, hsl, hA⟩ := hrel
    have HA := Lib.hid hA
    clear hA
    by_cases hlt : k < xs.length
    · have hacts := HX.out.below HA.out.below
      rcases hacts with rfl | ⟨bb, off, rfl, hbl, hc⟩
      · simp at hlt
      obtain ⟨x, hx⟩ : ∃ x, xs[k]? = some x := ⟨_, List.getElem?_eq_getElem hlt⟩
      obtain ⟨c0, c1, c2, hrd, hw, hn⟩ := hc k x hx
      obtain ⟨what, n, v, b⟩ := x
      simp only at c0 c1 c2 hrd hw hn
      obtain ⟨av, cv, rfl⟩ := hrd.form
      have HR := Lib.hid hrd
      have HN := Lib.hid hn
      clear hc hx hrd hn
      by_cases hb50 : b.length ≤ 50
      · have hq : Int.tmod what 2 = what % 2 := Int.tmod_eq_emod_of_nonneg hw.1
        have hp2 : what % 2 = 0 ∨ what % 2 = 1 := by omega
        rcases hp2 with hp2 | hp2
        · have hq0 : Int.tmod what 2 = 0 := hq.trans hp2
          clear hq hp2
          go_wp2_with (at_builtin; refine wpList_append_sl _ rfl (.const (.slice none 0 0)) (.tmp 39) 26 rfl 5 i0 (.int .u8 0) 1 1 Try.underlying26 hi hz0 hz1 hz2 rfl (by decide) (.slice none 0 0) 0 [] rfl (Sl.nil _ _ _) (.slice av b.length cv) b.length (cb b) rfl HR.out (cb_one _) (pipe_small (by omega)) (pipe_small2 (by omega)) ?_; intro a' c' w3 g1 g2 g3 g4; have G1 := Lib.hid g1; have G2 := Lib.hid g2; have G3 := Lib.hid g3; clear g1 g2 g3 g4)
          have S3 : Sl w3 5 1 (.slice a' b.length c') b.length (cb b) := by have := G1.out; simpa using this
          have O3 : ∀ g ∈ own (.slice a' b.length c'), wr.heap.size ≤ g := by have := G3.out; simpa using this
          refine (at_push HA.out G2.out S3 O3 (by omega)).mono ?_
          rintro e w4 ⟨rfl, hcv, hPB⟩
          have HPB := Lib.hid hPB
          have hcat : str s ++ str b = str (s ++ b) := str_append _ _
          have hz1s : (str s).size ≤ 3000 := by rw [str_size]; omega
          have hz2s : (str b).size ≤ 50 := by rw [str_size]; omega
          have hbm : (b.length : Int) ≤ 9223372036854775807 := by omega
          clear S3 O3 hPB G1 G2 G3
          go_wp2_with fail
          clear hz1s hz2s
          obtain ⟨wo, rfl⟩ : ∃ wo : World, wo = wr := ⟨_, rfl⟩
          go_loopw [7] (fun i wq => ∃ j : Nat, j ≤ b.length ∧ i = .int .i64 (j : Int) ∧ PB w wq p (s ++ b) (.slice a' b.length c') b.length) (fun i _ => b.length - (intOf i).toNat)
          case atStart => exact ⟨0, by omega, rfl, HPB.out⟩
          case round =>
            obtain ⟨j, hj, rfl, hQ⟩ := hrel
            have HQ := Lib.hid hQ
            clear hQ hcv
            by_cases hjl : j < b.length
            · obtain ⟨g, o, rfl⟩ := HQ.out.lies (by omega)
              obtain ⟨⟨y, c3⟩, f3⟩ := HQ.out.cell j hjl
              go_wp2_with fail
              go_roundw
              case rel => exact ⟨j + 1, by omega, by go_num, HQ.out.set j hjl _⟩
              case measure => simp [intOf]; omega
            · obtain rfl : j = b.length := by omega
              go_wp2_with fail
              go_roundw
              case rel => exact ⟨k + 1, s ++ b, by omega, by go_num, rfl, by simp; omega, HQ.out.pipe⟩
              case measure => simp [intOf]; omega
        · have hq0 : Int.tmod what 2 = 1 := hq.trans hp2
          clear hq hp2
          obtain ⟨kk, hkk⟩ : ∃ kk, (if n < 0 then (0 : Int) else n) = kk := ⟨_, rfl⟩
          obtain ⟨m, hm⟩ : ∃ m, pullN n s.length = m := ⟨_, rfl⟩
          have hkm : (if (s.length : Int) < kk then (s.length : Int) else kk) = (m : Int) := by rw [← hkk, ← hm]; unfold pullN; split <;> split at * <;> omega
          have hms : m ≤ s.length := by rw [← hm]; unfold pullN; omega
          have HM := Lib.hid hm
          have hss : (str s).size = s.length := str_size s
          have hsb : (s.length : Int) ≤ 9223372036854775807 := by omega
          have hx1 : (str s).extract 0 m = str (s.take m) := by rw [str_extract]; simp
          have hx2 : (str s).extract m s.length = str (s.drop m) := by rw [str_extract]; simp
          clear hm hw
          have HAD := Lib.hid (HA.out.keep ((Touch.refl [] _).drew))
          go_upto_region 21 with fail
          go_region_law (first | (go_simp; go_at_call 9; refine (at_pullN HAD.out n m HM.out (by omega)).mono ?_; rintro e w5 ⟨a, c, rfl, hcv, hA5⟩; have A5 := Lib.hid hA5; clear hA5))
          clear hcv hx1 hkk hkm
          have hsd : (str (s.drop m)).size = s.length - m := by rw [str_size]; simp
          have hld : (s.drop m).length = s.length - m := by simp
          have HLD := Lib.hid hld
          clear hld
          go_wp2_with fail
          refine (at_len A5.out).mono ?_
          rw [HLD.out]
          rintro e w6 ⟨rfl, rfl⟩
          go_wp2_with fail
          go_roundw
          case rel => exact ⟨k + 1, s.drop m, by omega, by go_num, rfl, by rw [HLD.out]; omega, A5.out⟩
          case measure => simp [intOf]; omega
      · go_wp2_with fail
        go_ret
        exact ⟨rfl, HA.out.below⟩
    · obtain rfl : k = xs.length := by omega
      have hps : pullN 1048576 s.length = s.length := by unfold pullN; omega
      have hts : s.take s.length = s := by simp
      have HPS := Lib.hid hps
      have HTS := Lib.hid hts
      clear hps hts
      go_wp2_with fail
      refine (at_pullN HA.out 1048576 _ HPS.out (by omega)).mono ?_
      rw [HTS.out]
      rintro e w5 ⟨a, c, rfl, hcv, hA5⟩
      have A5 := Lib.hid hA5
      clear hA5
      go_wp2_with fail
      go_ret
      exact ⟨rfl, A5.out.below⟩
end Go.Proofs.Ytaklbobmbobcaaa
