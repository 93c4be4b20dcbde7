/- A table that the call made; the walk of the statement on great entries. Conditions: none of their own. -/
import Derived.Test.YtfkmcbkhodppmaaW
import Derived.Laws.BytesArg
import Derived.Deep.OwnRows
import Derived.Laws.OwnMore
namespace Go.Proofs.Ytfkmcbkhodppmaa
open Go.RowKit Go.Maps
set_option linter.unusedVariables false

/-- A table of the call's own. -/
def At5 (w wr : World) (t : Nat) (s : TS) (cap : Nat) : Prop := ∃ F, IsTab wr t F s cap ∧ (∀ g ∈ F, w.heap.size ≤ g) ∧ Touch [] w wr ∧ s.ok cap
section
variable {w wr wr' : World} {t cap : Nat} {s : TS}
theorem At5.keep (h : At5 w wr t s cap) (hk : Touch [] wr wr') : At5 w wr' t s cap :=
  let ⟨F, h1, h2, h3, h4⟩ := h
  ⟨F, h1.keep hk, h2, h3.trans hk (by simp), h4⟩
theorem At5.touch (h : At5 w wr t s cap) : Touch [] w wr := let ⟨_, _, _, h3, _⟩ := h; h3
theorem At5.below (h : At5 w wr t s cap) : Below w.heap.size w wr := h.touch.below (Nat.le_refl _) (by simp)
theorem At5.add (h : At5 w wr t s cap) (hk : Touch [] wr wr') (x : Value) (l : List Fld) (hx : Rd wr' 2 x l.length (cf l)) (hxo : ∀ g ∈ own x, g < w.heap.size ∨ wr.heap.size ≤ g) (hcap : cap ≤ 549755813888)
    (hcn : s.cnt + l.length ≤ 549755813888) (hl : ∀ y ∈ l, sz y ≤ 549755813888) :
    Calls Try.prog 12 #[.pointer (some ⟨t, 0, none⟩), x] wr' fun e w' => e = .returned (.int .i64 (goneA cap s l)) ∧ At5 w w' t (addA cap s l) cap := by
  obtain ⟨F, h1, h2, h3, h4⟩ := h
  refine (add_any (h1.keep hk) x l hx (fun g hg hm => ?_) h4 hcap hcn hl).mono ?_
  · have := h2 g hm
    have := h1.lt g hm
    rcases hxo g hg with h | h <;> omega
  · rintro e w' ⟨rfl, F', k1, k2, k3⟩
    have hs1 := hk.size
    have hs2 := h3.size
    refine ⟨rfl, F', k1, fun g hg => ?_, (h3.trans hk (by simp)).trans k2 (fun g hg => .inr (h2 g hg)), (ok_addA l h4).1⟩
    rcases k3 g hg with h | h
    · exact h2 g h
    · omega
theorem At5.resize (h : At5 w wr t s cap) (n : Int) (hn : n ≤ 549755813888) (hcap : cap ≤ 549755813888) (hcn : s.cnt ≤ 549755813888) :
    Calls Try.prog 20 #[.pointer (some ⟨t, 0, none⟩), .int .i64 n] wr fun e w' => e = .returned (.int .i64 (fitN s.L (up n))) ∧ At5 w w' t (setC s (up n)) (up n) := by
  obtain ⟨F, h1, h2, h3, h4⟩ := h
  refine (resize_any h1 n (by omega) (by omega) (by have := h4.2; omega)).mono ?_
  rintro e w' ⟨rfl, F', k1, k2, k3⟩
  refine ⟨rfl, F', k1, fun g hg => h2 g (k3 g hg), h3.trans k2 (fun g hg => .inr (h2 g hg)), ?_, ?_⟩
  · have := fitL_len s.L (up n)
    have := h4.1
    show (fitL s.L (up n)).length ≤ s.cnt
    omega
  · have := fitL_sz s.L (up n) (by omega)
    show szL (fitL s.L (up n)) ≤ up n
    omega
theorem At5.len (h : At5 w wr t s cap) : Calls Try.prog 14 #[.pointer (some ⟨t, 0, none⟩)] wr fun e w' => e = .returned (.int .i64 s.L.length) ∧ wr = w' := let ⟨_, h1, _⟩ := h; len_any h1
theorem At5.size (h : At5 w wr t s cap) : Calls Try.prog 15 #[.pointer (some ⟨t, 0, none⟩)] wr fun e w' => e = .returned (.int .i64 (szL s.L)) ∧ wr = w' := let ⟨_, h1, _⟩ := h; tabSize_any h1
theorem At5.count (h : At5 w wr t s cap) : Calls Try.prog 16 #[.pointer (some ⟨t, 0, none⟩)] wr fun e w' => e = .returned (.int .u64 s.cnt) ∧ wr = w' := let ⟨_, h1, _⟩ := h; count_any h1
theorem At5.capOf (h : At5 w wr t s cap) : Calls Try.prog 18 #[.pointer (some ⟨t, 0, none⟩)] wr fun e w' => e = .returned (.int .i64 cap) ∧ wr = w' := let ⟨_, h1, _⟩ := h; cap_any h1
theorem new_at (n : Int) (m : Nat) (hm : up n = m) (w wr : World) (h : Touch [] w wr) : Calls Try.prog 9 #[.int .i64 n] wr fun e w' => ∃ t, e = .returned (.pointer (some ⟨t, 0, none⟩)) ∧ At5 w w' t ⟨[], 0⟩ m := by
  subst hm
  refine (new_any n wr).mono ?_
  rintro e w' ⟨t, F, rfl, h1, h2, h3⟩
  have := h.size
  exact ⟨t, rfl, F, h1, fun g hg => by have := h2 g hg; omega, h.trans h3 (by simp), Nat.le_refl _, Nat.zero_le _⟩
end

/-- A text of n zero bytes. -/
def zs (n : Nat) : ByteArray := strOfNums (List.replicate n 0)
theorem zs_size (n : Nat) : (zs n).size = n := by simp [zs, strOfNums, ByteArray.size]
theorem conv_zero (w : World) (n : Nat) : (convert 36 9 (.slice (some ⟨w.heap.size, 0, none⟩) n n)).run Try.prog (w.alloc (.cells (madeCells #[.int .u8 0] n) 5)) = .ok (.string (zs n)) (w.alloc (.cells (madeCells #[.int .u8 0] n) 5)) := by
  refine run_convert_bytes_arg _ 36 5 Try.underlying36 Try.underlying5 w.heap.size 0 n n (List.replicate n 0) (by simp) (fun i hi => ?_) 9 Try.underlying9
  have h := (IsBlk.new w (madeCells #[.int .u8 0] n).toList 5).cell (0 + i)
  simp only [Array.toArray_toList] at h
  rw [h, toList_madeCells_one]
  simp [hi]
theorem info5 : (Try.prog.info? 5).map (fun i => (i.zero, i.size, i.bytes)) = some (some (.int .u8 0), 1, 1) := by kernel_rfl
theorem make_zero (n : Nat) (h : n ≤ 1099511627776) (w : World) : (Instr.makeSlice 36 (.int .i64 (n : Int)) (.int .i64 (n : Int))).run Try.prog w = .ok (.slice (some ⟨w.heap.size, 0, none⟩) n n) (w.alloc (.cells (madeCells #[.int .u8 0] n) 5)) :=
  run_make_row' 36 5 (.int .u8 0) 1 Try.underlying36 info5 rfl .i64 .i64 n (by omega) (by omega) w
theorem fitL_zero (L : List Fld) : fitL L 0 = [] := by
  have h := fitL_sz L 0 (Int.le_refl _)
  have h2 := szL_len (fitL L 0)
  exact List.eq_nil_of_length_eq_zero (by omega)

set_option maxRecDepth 100000 in
set_option maxHeartbeats 8000000 in
theorem great_walk (n more few : Int) (w : World) (hn : 0 ≤ n ∧ n ≤ 255) (hm : 0 ≤ more ∧ more ≤ 255) (hf : 0 ≤ few ∧ few ≤ 255) :
    Calls Try.prog 4 #[.int .u8 n, .int .u8 more, .int .u8 few] w fun e w' => e = .returned (.bool true) ∧ Below w.heap.size w w' := by
  have hq1 : Int.tmod few 5 = few % 5 := Int.tmod_eq_emod_of_nonneg hf.1
  have hq2 : Int.tmod more 3 = more % 3 := Int.tmod_eq_emod_of_nonneg hm.1
  obtain ⟨fk, hfk⟩ : ∃ fk : Nat, few % 5 = (fk : Int) := ⟨(few % 5).toNat, by omega⟩
  obtain ⟨q, hqq⟩ : ∃ q : Nat, more % 3 = (q : Int) := ⟨(more % 3).toNat, by omega⟩
  obtain ⟨m, rfl⟩ := Int.eq_ofNat_of_zero_le hn.1
  have hm255 : m ≤ 255 := by omega
  have hfk4 : fk ≤ 4 := by omega
  have hq2' : q ≤ 2 := by omega
  have e1 : Int.tmod few 5 = (fk : Int) := hq1.trans hfk
  have e2 : Int.tmod more 3 = (q : Int) := hq2.trans hqq
  clear hq1 hq2 hfk hqq hn hm hf
  go_enter Try.func4, Try.ntmps4
  go_wp2_with fail
  refine (known_any _).mono ?_
  rintro e w1 ⟨rfl, hb⟩
  have T1 := Lib.hid hb
  clear hb
  go_wp2_with fail
  refine (new_at (33 + (m : Int)) (33 + m) (by unfold up; omega) w w1 T1.out).mono ?_
  rintro e w2 ⟨t, rfl, hA⟩
  have A2 := Lib.hid hA
  clear hA
  go_wp2_with fail
  go_loopw [9] (fun i wr => ∃ (k : Nat) (s : TS), k ≤ fk ∧ i = .int .i64 (k : Int) ∧ At5 w wr t s (33 + m) ∧ s.cnt ≤ k) (fun i _ => fk - (intOf i).toNat)
  case atStart => exact ⟨0, _, by omega, rfl, A2.out, Nat.le_refl _⟩
  case round =>
    obtain ⟨k, s, hk, rfl, hA, hs⟩ := hrel
    have HA := Lib.hid hA
    have HS := Lib.hid hs
    clear hA hs
    by_cases hlt : k < fk
    · have hmk := fun W => make_zero k (by omega) W
      have hcv := fun W => conv_zero W k
      go_wp2_with fail
      refine (HA.out.add (((Touch.refl [] _).alloc _).alloc _) _ [(⟨#[]⟩, zs k)] (rd_new _ [(⟨#[]⟩, zs k)] (by simp) rfl) (by intro g hg; have := (mem_own hg).1; simp at this; omega) (by omega) (by have := HS.out; simp; omega) (by intro y hy; simp only [List.mem_cons, List.not_mem_nil, or_false] at hy; subst hy; simp only [sz, zs_size]; show 0 + k + 32 ≤ _; omega)).mono ?_
      rintro e w3 ⟨rfl, hA⟩
      have HA3 := Lib.hid hA
      clear hA
      go_wp2_with fail
      go_roundw
      case rel => exact ⟨k + 1, _, by omega, by go_num, HA3.out, by have := (ok_addA [(⟨#[]⟩, zs k)] (let ⟨_, _, _, _, h⟩ := HA.out; h)).2; have := HS.out; simp at *; omega⟩
      case measure => simp [intOf]; omega
    · obtain rfl : k = fk := by omega
      obtain ⟨z, hz⟩ : ∃ z, m + 1 + q = z := ⟨_, rfl⟩
      have hmk : ∀ W, (Instr.makeSlice 36 (.int .i64 (33 + (m : Int) - 32 + (q : Int))) (.int .i64 (33 + (m : Int) - 32 + (q : Int)))).run Try.prog W = .ok (.slice (some ⟨W.heap.size, 0, none⟩) z z) (W.alloc (.cells (madeCells #[.int .u8 0] z) 5)) := fun W => by
        rw [show (33 + (m : Int) - 32 + (q : Int)) = (z : Int) from by omega]
        exact make_zero z (by omega) W
      have hcv := fun W => conv_zero W z
      have HZ : Hid (sz (zs z, ⟨#[]⟩) = 33 + m + q) := Lib.hid (by simp only [sz, zs_size]; show z + 0 + 32 = _; omega)
      by_cases hq0 : q = 0
      · have HE : Hid (addA (33 + m) s [(zs z, ⟨#[]⟩)] = ⟨[(zs z, ⟨#[]⟩)], s.cnt + 1⟩) := Lib.hid (by
          show add1 (33 + m) s (zs z, ⟨#[]⟩) = _
          rw [add1_yes _ _ _ (by rw [HZ.out]; omega), HZ.out, hq0]
          rw [show (((33 + m : Nat) : Int) - ((33 + m + 0 : Nat) : Int)) = 0 from by omega, fitL_zero]
          rfl)
        have HZ : Hid (sz (zs z, ⟨#[]⟩) = 33 + m) := Lib.hid (by rw [HZ.out, hq0]; omega)
        have e3 : ((q : Int) == 0) = true := by simp [hq0]
        have hzb : z ≤ 1000 := by omega
        clear hz hq0
        go_wp2_with fail
        refine (HA.out.add (((Touch.refl [] _).alloc _).alloc _) _ [(zs z, ⟨#[]⟩)] (rd_new _ [(zs z, ⟨#[]⟩)] (by simp) rfl) (by intro g hg; have := (mem_own hg).1; simp at this; omega) (by omega) (by have := HS.out; simp; omega) (by intro y hy; simp only [List.mem_cons, List.not_mem_nil, or_false] at hy; subst hy; rw [HZ.out]; omega)).mono ?_
        rw [HE.out]
        rintro e w3 ⟨rfl, hA⟩
        have HA3 := Lib.hid hA
        clear hA hmk hcv
        go_wp2_with fail
        refine HA3.out.len.mono ?_
        rintro e w4 ⟨rfl, rfl⟩
        go_wp2_with fail
        refine HA3.out.size.mono ?_
        rw [show szL ([(zs z, ⟨#[]⟩)] : List Fld) = 33 + m from by rw [szL_cons, HZ.out]; simp [szL]]
        rintro e w4 ⟨rfl, rfl⟩
        go_wp2_with fail
        go_ret
        exact ⟨rfl, HA3.out.below⟩
      · have HE : Hid (addA (33 + m) s [(zs z, ⟨#[]⟩)] = ⟨[], s.cnt⟩) := Lib.hid (by
          show add1 (33 + m) s (zs z, ⟨#[]⟩) = _
          rw [add1_no _ _ _ (by rw [HZ.out]; omega)])
        have e3 : ((q : Int) == 0) = false := by simp [hq0]
        have hzb : z ≤ 1000 := by omega
        clear hz hq0
        go_wp2_with fail
        refine (HA.out.add (((Touch.refl [] _).alloc _).alloc _) _ [(zs z, ⟨#[]⟩)] (rd_new _ [(zs z, ⟨#[]⟩)] (by simp) rfl) (by intro g hg; have := (mem_own hg).1; simp at this; omega) (by omega) (by have := HS.out; simp; omega) (by intro y hy; simp only [List.mem_cons, List.not_mem_nil, or_false] at hy; subst hy; rw [HZ.out]; omega)).mono ?_
        rw [HE.out]
        rintro e w3 ⟨rfl, hA⟩
        have HA3 := Lib.hid hA
        clear hA hmk hcv
        go_wp2_with fail
        refine HA3.out.len.mono ?_
        rintro e w4 ⟨rfl, rfl⟩
        go_wp2_with fail
        refine HA3.out.size.mono ?_
        rintro e w4 ⟨rfl, rfl⟩
        go_wp2_with fail
        go_ret
        exact ⟨rfl, HA3.out.below⟩
end Go.Proofs.Ytfkmcbkhodppmaa
