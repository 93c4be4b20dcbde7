/- The walks of the functions over lists of fields. Conditions: the list's cells are where the slice says; the sum of the sizes fits. -/
import Derived.Test.YtnakdlneennofaaC
import Derived.Outline
import Derived.Laws.StructEq
namespace Go.Proofs.Ytnakdlneennofaa
open Go.RowKit

theorem bcell {B : Nat} {W w1 : World} (hb : Below B W w1) : (∀ b o, b < B → w1.cell? ⟨b, o, none⟩ = W.cell? ⟨b, o, none⟩) ∧ (∀ b o, b < B → w1.frozen? ⟨b, o, none⟩ = W.frozen? ⟨b, o, none⟩) :=
  ⟨fun b o h => hb.cell (p := ⟨b, o, none⟩) h, fun b o h => hb.frozen (p := ⟨b, o, none⟩) h⟩

abbrev Fld := ByteArray × ByteArray
/-- The slice's cells: the fields xs lie there. -/
def IsF (w : World) (a : Option Addr) (xs : List Fld) : Prop :=
  xs = [] ∨ ∃ b off, a = some ⟨b, off, none⟩ ∧ b < w.heap.size ∧
    ∀ i, i < xs.length → w.cell? ⟨b, off + i * 2, none⟩ = some (.string (xs.getD i default).1) ∧ w.cell? ⟨b, off + i * 2 + 1, none⟩ = some (.string (xs.getD i default).2)
def sizeF (xs : List Fld) : Int := (xs.map fun x => ((x.1.size : Int) + x.2.size + 32)).sum
theorem sizeF_nonneg (xs : List Fld) : 0 ≤ sizeF xs := by
  induction xs with
  | nil => decide
  | cons x l ih => simp [sizeF] at *; omega
theorem sizeF_append (xs ys : List Fld) : sizeF (xs ++ ys) = sizeF xs + sizeF ys := by
  simp only [sizeF, List.map_append, List.sum_append]
theorem sizeF_one (x : Fld) : sizeF [x] = (x.1.size : Int) + x.2.size + 32 := by simp [sizeF]
theorem sizeF_take (xs : List Fld) (k : Nat) (hk : k < xs.length) : sizeF (xs.take (k + 1)) = sizeF (xs.take k) + (((xs.getD k default).1.size : Int) + (xs.getD k default).2.size + 32) := by
  rw [List.take_succ_eq_append_getElem hk, sizeF_append, sizeF_one]
  simp [List.getD_eq_getElem?_getD, hk]
theorem sizeF_take_le (xs : List Fld) (k : Nat) : sizeF (xs.take k) ≤ sizeF xs := by
  have h : sizeF xs = sizeF (xs.take k) + sizeF (xs.drop k) := by
    rw [← sizeF_append, List.take_append_drop]
  have := sizeF_nonneg (xs.drop k)
  omega

theorem ret_i {k : IntKind} {a b : Int} (h : a = b) : Ending.returned (.int k a) = .returned (.int k b) := by rw [h]

theorem size_any (a : Option Addr) (cap : Nat) (xs : List Fld) (w : World) (hl : xs.length ≤ 1152921504606846976) (hf : IsF w a xs) (hsz : sizeF xs ≤ 1152921504606846976) :
    Calls Try.prog 15 #[.slice a xs.length cap] w fun e w' => e = .returned (.int .i64 (sizeF xs)) ∧ Below w.heap.size w w' := by
  rcases hf with rfl | ⟨b, off, rfl, hb, hc⟩
  · go_enter Try.func15, Try.ntmps15
    go_wp2
    refine wp_loop_rounds 1 ?_
    rw [rounds_succ]
    go_wp2
    go_ret
    exact ⟨rfl, Below.refl _ _⟩
  · go_enter Try.func15, Try.ntmps15
    go_wp2
    go_loopw [3, 8] (fun n i wr => ∃ k : Nat, k ≤ xs.length ∧ i = .int .i64 k ∧ n = .int .i64 (sizeF (xs.take k)) ∧ Below w.heap.size w wr) (fun _ i _ => xs.length - (intOf i).toNat)
    case atStart => exact ⟨0, Nat.zero_le _, rfl, rfl, Below.refl _ _⟩
    case round =>
      obtain ⟨k, hk, rfl, rfl, hbel⟩ := hrel
      have hn0 := sizeF_nonneg (xs.take k)
      by_cases hlt : k < xs.length
      · have hsu := sizeF_take xs k hlt
        have hsl := sizeF_take_le xs (k + 1)
        obtain ⟨n, hn⟩ : ∃ n, sizeF (xs.take k) = n := ⟨_, rfl⟩
        rw [hn] at hsu hn0
        obtain ⟨x, hx⟩ : ∃ x, xs.getD k default = x := ⟨_, rfl⟩
        obtain ⟨hc1, hc2⟩ := hc k hlt
        rw [hx] at hc1 hc2 hsu
        rw [← (bcell hbel).1 _ _ hb] at hc1 hc2
        have H1 := Lib.hid hsu
        have hbd : n + ((x.1.size : Int) + x.2.size + 32) ≤ 1152921504606846976 := by omega
        rw [hn]
        clear hsu hn hx hsl hc
        go_wp2
        go_roundw
        case rel => exact ⟨k + 1, by omega, by go_num, by rw [H1.out], hbel.alloc (by have := hbel.size; omega) _⟩
        case measure => simp [intOf]; omega
      · obtain rfl : xs.length = k := by omega
        rw [List.take_length]
        go_wp2
        go_ret
        exact ⟨rfl, hbel⟩

theorem sizeR_any (a : Option Addr) (cap : Nat) (xs : List Fld) (w : World) (hl : xs.length ≤ 1152921504606846976) (hf : IsF w a xs) (hsz : sizeF xs ≤ 1152921504606846976) :
    Calls Try.prog 16 #[.slice a xs.length cap] w fun e w' => e = .returned (.int .i64 (sizeF xs)) ∧ Below w.heap.size w w' := by
  rcases hf with rfl | ⟨b, off, rfl, hb, hc⟩
  · go_enter Try.func16, Try.ntmps16
    go_wp2
    refine wp_loop_rounds 1 ?_
    rw [rounds_succ]
    go_wp2
    go_ret
    exact ⟨rfl, Below.refl _ _⟩
  · go_enter Try.func16, Try.ntmps16
    go_wp2
    go_loopw [3, 4] (fun n i wr => ∃ k : Nat, k ≤ xs.length ∧ i = .int .i64 k ∧ n = .int .i64 (sizeF (xs.take k)) ∧ Below w.heap.size w wr) (fun _ i _ => xs.length - (intOf i).toNat)
    case atStart => exact ⟨0, Nat.zero_le _, rfl, rfl, Below.refl _ _⟩
    case round =>
      obtain ⟨k, hk, rfl, rfl, hbel⟩ := hrel
      have hn0 := sizeF_nonneg (xs.take k)
      by_cases hlt : k < xs.length
      · have hsu := sizeF_take xs k hlt
        have hsl := sizeF_take_le xs (k + 1)
        obtain ⟨n, hn⟩ : ∃ n, sizeF (xs.take k) = n := ⟨_, rfl⟩
        rw [hn] at hsu hn0
        obtain ⟨x, hx⟩ : ∃ x, xs.getD k default = x := ⟨_, rfl⟩
        obtain ⟨hc1, hc2⟩ := hc k hlt
        rw [hx] at hc1 hc2 hsu
        rw [← (bcell hbel).1 _ _ hb] at hc1 hc2
        have H1 := Lib.hid hsu
        have hbd : n + ((x.1.size : Int) + x.2.size + 32) ≤ 1152921504606846976 := by omega
        rw [hn]
        have hk2 : (k : Int) < (xs.length : Int) := by omega
        clear hsu hn hx hsl hc
        go_wp2
        go_quiet (fail)
        go_wp2
        go_roundw
        case rel => exact ⟨k + 1, by omega, by go_num, by rw [H1.out], below_drewN hbel _⟩
        case measure => simp [intOf]; omega
      · obtain rfl : xs.length = k := by omega
        rw [List.take_length]
        go_wp2
        go_ret
        exact ⟨rfl, hbel⟩

def eqF (x y : Fld) : Bool := x.1.toList == y.1.toList && x.2.toList == y.2.toList
theorem toList_inj (a b : ByteArray) (h : a.toList = b.toList) : a = b := by
  rw [ByteArray.toList_eq, ByteArray.toList_eq] at h
  obtain ⟨⟨a⟩⟩ := a
  obtain ⟨⟨b⟩⟩ := b
  simpa using h
theorem eqF_iff (x y : Fld) : eqF x y = true ↔ x = y := by
  constructor
  · intro h
    simp only [eqF, Bool.and_eq_true, beq_iff_eq] at h
    exact Prod.ext (toList_inj _ _ h.1) (toList_inj _ _ h.2)
  · rintro rfl; simp [eqF]
theorem fieldsF : ((Try.prog.fieldsOf 32).toList.map fun f => (f.name, f.type, f.offset)) = [("Name", 9, 0), ("Value", 9, 1)] := by kernel_rfl
theorem two_of {α : Type} (l : List α) (h : l.length = 2) : ∃ f g, l = [f, g] := by
  match l, h with
  | [f, g], _ => exact ⟨f, g, rfl⟩
theorem run_eqF (x y : Fld) (w : World) : (Op.equalIn 10000 32 (.agg #[.string x.1, .string x.2]) (.agg #[.string y.1, .string y.2])).run Try.prog w = .ok (eqF x y) w := by
  rw [run_equalIn_struct w 9999 32 _ _ (by kernel_rfl) (by kernel_rfl)]
  have h := fieldsF
  generalize (Try.prog.fieldsOf 32).toList = l at h
  obtain ⟨f, g, rfl⟩ := two_of l (by simpa using congrArg List.length h)
  simp at h
  obtain ⟨⟨h1, h2, h3⟩, h4, h5, h6⟩ := h
  simp [Op.eqFields, h1, h2, h3, h4, h5, h6, go_sem]
  by_cases e1 : x.1.toList = y.1.toList <;> by_cases e2 : x.2.toList = y.2.toList <;> simp [eqF, e1, e2]

theorem take_both {α : Type} [Inhabited α] (xs ys : List α) (k : Nat) (h1 : k < xs.length) (h2 : k < ys.length) (h : xs.take k = ys.take k) (he : xs.getD k default = ys.getD k default) : xs.take (k + 1) = ys.take (k + 1) := by
  rw [List.take_succ_eq_append_getElem h1, List.take_succ_eq_append_getElem h2, h]
  simp only [List.getD_eq_getElem?_getD, List.getElem?_eq_getElem h1, List.getElem?_eq_getElem h2, Option.getD_some] at he
  rw [he]
/-- The slice's cells: the texts xs lie there. -/
def IsS (w : World) (a : Option Addr) (xs : List ByteArray) : Prop :=
  xs = [] ∨ ∃ b off, a = some ⟨b, off, none⟩ ∧ b < w.heap.size ∧ ∀ i, i < xs.length → w.cell? ⟨b, off + i, none⟩ = some (.string (xs.getD i default))
theorem beq_toList_iff (x y : ByteArray) : (x.toList == y.toList) = true ↔ x = y := by
  constructor
  · intro h; exact toList_inj _ _ (by simpa using h)
  · rintro rfl; simp

theorem fields_any (a1 a2 : Option Addr) (cap1 cap2 : Nat) (xs ys : List Fld) (w : World) (hl : xs.length ≤ 1152921504606846976) (hl2 : ys.length ≤ 1152921504606846976) (hf : IsF w a1 xs) (hg : IsF w a2 ys) :
    Calls Try.prog 21 #[.slice a1 xs.length cap1, .slice a2 ys.length cap2] w fun e w' => e = .returned (.bool (decide (xs = ys))) ∧ Below w.heap.size w w' := by
  by_cases hlen : xs.length = ys.length
  · rcases hf with rfl | ⟨b, off, rfl, hb, hc⟩
    · obtain rfl : ys = [] := List.length_eq_zero_iff.1 (by simpa using hlen.symm)
      rw [show decide (([] : List Fld) = []) = true from by simp]
      clear hlen
      go_enter Try.func21, Try.ntmps21
      go_wp2
      refine wp_loop_rounds 1 ?_
      rw [rounds_succ]
      go_wp2
      go_ret
      exact ⟨rfl, Below.refl _ _⟩
    · rcases hg with rfl | ⟨b2, off2, rfl, hb2, hc2⟩
      · obtain rfl : xs = [] := List.length_eq_zero_iff.1 (by simpa using hlen)
        rw [show decide (([] : List Fld) = []) = true from by simp]
        clear hlen hc
        go_enter Try.func21, Try.ntmps21
        go_wp2
        refine wp_loop_rounds 1 ?_
        rw [rounds_succ]
        go_wp2
        go_ret
        exact ⟨rfl, Below.refl _ _⟩
      · have hne : ((xs.length : Int) != (ys.length : Int)) = false := by rw [hlen]; simp
        have HL := Lib.hid hlen
        clear hlen
        have HN : ∀ k, k < xs.length → xs.getD k default ≠ ys.getD k default → decide (xs = ys) = false := fun k _ hne => by
          rw [decide_eq_false_iff_not]; rintro rfl; exact hne rfl
        generalize hr : decide (xs = ys) = r at *
        have HR := Lib.hid hr
        clear hr
        go_enter Try.func21, Try.ntmps21
        go_wp2
        go_loopw [5] (fun i wr => ∃ k : Nat, k ≤ xs.length ∧ i = .int .i64 k ∧ xs.take k = ys.take k ∧ Below w.heap.size w wr) (fun i _ => xs.length - (intOf i).toNat)
        case atStart => exact ⟨0, Nat.zero_le _, rfl, rfl, Below.refl _ _⟩
        case round =>
          obtain ⟨k, hk, rfl, heq, hbel⟩ := hrel
          have HE := Lib.hid heq
          clear heq
          by_cases hlt : k < xs.length
          · have hlt2 : k < ys.length := by have := HL.out; omega
            obtain ⟨x, hx⟩ : ∃ x, xs.getD k default = x := ⟨_, rfl⟩
            obtain ⟨y, hy⟩ : ∃ x, ys.getD k default = x := ⟨_, rfl⟩
            obtain ⟨c1, c2⟩ := hc k hlt
            obtain ⟨c3, c4⟩ := hc2 k hlt2
            rw [hx] at c1 c2
            rw [hy] at c3 c4
            rw [← (bcell hbel).1 _ _ hb] at c1 c2
            rw [← (bcell hbel).1 _ _ hb2] at c3 c4
            have HX := Lib.hid hx
            have HY := Lib.hid hy
            have hk2 : (k : Int) < (xs.length : Int) := by omega
            have hk3 : (k : Int) < (ys.length : Int) := by omega
            have he := run_eqF x y
            clear hx hy hc hc2
            cases hq : eqF x y with
            | true =>
              have hxy : x = y := (eqF_iff x y).1 hq
              have HXY := Lib.hid hxy
              clear hxy
              go_wp2
              go_quiet (fail)
              go_wp2
              go_roundw
              case rel => exact ⟨k + 1, by omega, by go_num, take_both xs ys k hlt hlt2 HE.out (by rw [HX.out, HY.out, HXY.out]), below_drewN hbel _⟩
              case measure => simp [intOf]; omega
            | false =>
              have hxy : r = false := HN k hlt (by rw [HX.out, HY.out]; intro h; rw [h] at hq; simp [eqF] at hq)
              have HXY := Lib.hid hxy
              clear hxy
              go_wp2
              go_quiet (fail)
              go_wp2
              go_ret
              exact ⟨by rw [HXY.out]; rfl, below_drewN hbel _⟩
          · obtain rfl : xs.length = k := by omega
            have hxy : r = true := by
              have h := HE.out
              rw [List.take_length, HL.out, List.take_length] at h
              rw [← HR.out, h]; simp
            have HXY := Lib.hid hxy
            clear hxy
            go_wp2
            go_ret
            exact ⟨by rw [HXY.out]; rfl, hbel⟩
  · have hne : ((xs.length : Int) != (ys.length : Int)) = true := by rw [bne_iff_ne]; omega
    rw [show decide (xs = ys) = false from by rw [decide_eq_false_iff_not]; rintro rfl; exact hlen rfl]
    clear hlen
    go_enter Try.func21, Try.ntmps21
    go_wp2
    go_ret
    exact ⟨rfl, Below.refl _ _⟩

theorem equal_any (a1 a2 : Option Addr) (cap1 cap2 : Nat) (xs ys : List Fld) (w : World) (hl : xs.length ≤ 1152921504606846976) (hl2 : ys.length ≤ 1152921504606846976) (hf : IsF w a1 xs) (hg : IsF w a2 ys) :
    Calls Try.prog 25 #[.slice a1 xs.length cap1, .slice a2 ys.length cap2] w fun e w' => e = .returned (.bool (decide (xs = ys))) ∧ Below w.heap.size w w' := by
  by_cases hlen : xs.length = ys.length
  · rcases hf with rfl | ⟨b, off, rfl, hb, hc⟩
    · obtain rfl : ys = [] := List.length_eq_zero_iff.1 (by simpa using hlen.symm)
      rw [show decide (([] : List Fld) = []) = true from by simp]
      clear hlen
      go_enter Try.func25, Try.ntmps25
      go_wp2
      refine wp_loop_rounds 1 ?_
      rw [rounds_succ]
      go_wp2
      go_ret
      exact ⟨rfl, Below.refl _ _⟩
    · rcases hg with rfl | ⟨b2, off2, rfl, hb2, hc2⟩
      · obtain rfl : xs = [] := List.length_eq_zero_iff.1 (by simpa using hlen)
        rw [show decide (([] : List Fld) = []) = true from by simp]
        clear hlen hc
        go_enter Try.func25, Try.ntmps25
        go_wp2
        refine wp_loop_rounds 1 ?_
        rw [rounds_succ]
        go_wp2
        go_ret
        exact ⟨rfl, Below.refl _ _⟩
      · have hne : ((xs.length : Int) != (ys.length : Int)) = false := by rw [hlen]; simp
        have HL := Lib.hid hlen
        clear hlen
        have HN : ∀ k, k < xs.length → xs.getD k default ≠ ys.getD k default → decide (xs = ys) = false := fun k _ hne => by
          rw [decide_eq_false_iff_not]; rintro rfl; exact hne rfl
        generalize hr : decide (xs = ys) = r at *
        have HR := Lib.hid hr
        clear hr
        go_enter Try.func25, Try.ntmps25
        go_wp2
        go_loopw [13] (fun i wr => ∃ k : Nat, k ≤ xs.length ∧ i = .int .i64 k ∧ xs.take k = ys.take k ∧ Below w.heap.size w wr) (fun i _ => xs.length - (intOf i).toNat)
        case atStart => exact ⟨0, Nat.zero_le _, rfl, rfl, Below.refl _ _⟩
        case round =>
          obtain ⟨k, hk, rfl, heq, hbel⟩ := hrel
          have HE := Lib.hid heq
          clear heq
          by_cases hlt : k < xs.length
          · have hlt2 : k < ys.length := by have := HL.out; omega
            obtain ⟨x, hx⟩ : ∃ x, xs.getD k default = x := ⟨_, rfl⟩
            obtain ⟨y, hy⟩ : ∃ x, ys.getD k default = x := ⟨_, rfl⟩
            obtain ⟨c1, c2⟩ := hc k hlt
            obtain ⟨c3, c4⟩ := hc2 k hlt2
            rw [hx] at c1 c2
            rw [hy] at c3 c4
            rw [← (bcell hbel).1 _ _ hb] at c1 c2
            rw [← (bcell hbel).1 _ _ hb2] at c3 c4
            have HX := Lib.hid hx
            have HY := Lib.hid hy
            have hk2 : (k : Int) < (xs.length : Int) := by omega
            have hk3 : (k : Int) < (ys.length : Int) := by omega
            have he := run_eqF x y
            clear hx hy hc hc2
            cases hq : eqF x y with
            | true =>
              have hxy : x = y := (eqF_iff x y).1 hq
              have HXY := Lib.hid hxy
              clear hxy
              go_wp2
              go_quiet (fail)
              go_wp2
              go_roundw
              case rel => exact ⟨k + 1, by omega, by go_num, take_both xs ys k hlt hlt2 HE.out (by rw [HX.out, HY.out, HXY.out]), below_drewN hbel _⟩
              case measure => simp [intOf]; omega
            | false =>
              have hxy : r = false := HN k hlt (by rw [HX.out, HY.out]; intro h; rw [h] at hq; simp [eqF] at hq)
              have HXY := Lib.hid hxy
              clear hxy
              go_wp2
              go_quiet (fail)
              go_wp2
              go_ret
              exact ⟨by rw [HXY.out]; rfl, below_drewN hbel _⟩
          · obtain rfl : xs.length = k := by omega
            have hxy : r = true := by
              have h := HE.out
              rw [List.take_length, HL.out, List.take_length] at h
              rw [← HR.out, h]; simp
            have HXY := Lib.hid hxy
            clear hxy
            go_wp2
            go_ret
            exact ⟨by rw [HXY.out]; rfl, hbel⟩
  · have hne : ((xs.length : Int) != (ys.length : Int)) = true := by rw [bne_iff_ne]; omega
    rw [show decide (xs = ys) = false from by rw [decide_eq_false_iff_not]; rintro rfl; exact hlen rfl]
    clear hlen
    go_enter Try.func25, Try.ntmps25
    go_wp2
    go_ret
    exact ⟨rfl, Below.refl _ _⟩

theorem strings_any (a1 a2 : Option Addr) (cap1 cap2 : Nat) (xs ys : List ByteArray) (w : World) (hl : xs.length ≤ 1152921504606846976) (hl2 : ys.length ≤ 1152921504606846976) (hf : IsS w a1 xs) (hg : IsS w a2 ys) :
    Calls Try.prog 17 #[.slice a1 xs.length cap1, .slice a2 ys.length cap2] w fun e w' => e = .returned (.bool (decide (xs = ys))) ∧ Below w.heap.size w w' := by
  by_cases hlen : xs.length = ys.length
  · rcases hf with rfl | ⟨b, off, rfl, hb, hc⟩
    · obtain rfl : ys = [] := List.length_eq_zero_iff.1 (by simpa using hlen.symm)
      rw [show decide (([] : List ByteArray) = []) = true from by simp]
      clear hlen
      go_enter Try.func17, Try.ntmps17
      go_wp2
      refine wp_loop_rounds 1 ?_
      rw [rounds_succ]
      go_wp2
      go_ret
      exact ⟨rfl, Below.refl _ _⟩
    · rcases hg with rfl | ⟨b2, off2, rfl, hb2, hc2⟩
      · obtain rfl : xs = [] := List.length_eq_zero_iff.1 (by simpa using hlen)
        rw [show decide (([] : List ByteArray) = []) = true from by simp]
        clear hlen hc
        go_enter Try.func17, Try.ntmps17
        go_wp2
        refine wp_loop_rounds 1 ?_
        rw [rounds_succ]
        go_wp2
        go_ret
        exact ⟨rfl, Below.refl _ _⟩
      · have hne : ((xs.length : Int) != (ys.length : Int)) = false := by rw [hlen]; simp
        have HL := Lib.hid hlen
        clear hlen
        have HN : ∀ k, k < xs.length → xs.getD k default ≠ ys.getD k default → decide (xs = ys) = false := fun k _ hne => by
          rw [decide_eq_false_iff_not]; rintro rfl; exact hne rfl
        generalize hr : decide (xs = ys) = r at *
        have HR := Lib.hid hr
        clear hr
        go_enter Try.func17, Try.ntmps17
        go_wp2
        go_loopw [5] (fun i wr => ∃ k : Nat, k ≤ xs.length ∧ i = .int .i64 k ∧ xs.take k = ys.take k ∧ Below w.heap.size w wr) (fun i _ => xs.length - (intOf i).toNat)
        case atStart => exact ⟨0, Nat.zero_le _, rfl, rfl, Below.refl _ _⟩
        case round =>
          obtain ⟨k, hk, rfl, heq, hbel⟩ := hrel
          have HE := Lib.hid heq
          clear heq
          by_cases hlt : k < xs.length
          · have hlt2 : k < ys.length := by have := HL.out; omega
            obtain ⟨x, hx⟩ : ∃ x, xs.getD k default = x := ⟨_, rfl⟩
            obtain ⟨y, hy⟩ : ∃ x, ys.getD k default = x := ⟨_, rfl⟩
            have c1 := hc k hlt
            have c3 := hc2 k hlt2
            rw [hx] at c1
            rw [hy] at c3
            rw [← (bcell hbel).1 _ _ hb] at c1
            rw [← (bcell hbel).1 _ _ hb2] at c3
            have HX := Lib.hid hx
            have HY := Lib.hid hy
            have hk2 : (k : Int) < (xs.length : Int) := by omega
            have hk3 : (k : Int) < (ys.length : Int) := by omega
            clear hx hy hc hc2
            cases hq : (x.toList == y.toList) with
            | true =>
              have hxy : x = y := (beq_toList_iff x y).1 hq
              have HXY := Lib.hid hxy
              clear hxy
              go_wp2
              go_quiet (fail)
              go_wp2
              go_roundw
              case rel => exact ⟨k + 1, by omega, by go_num, take_both xs ys k hlt hlt2 HE.out (by rw [HX.out, HY.out, HXY.out]), below_drewN hbel _⟩
              case measure => simp [intOf]; omega
            | false =>
              have hxy : r = false := HN k hlt (by rw [HX.out, HY.out]; intro h; rw [h] at hq; simp at hq)
              have HXY := Lib.hid hxy
              clear hxy
              go_wp2
              go_quiet (fail)
              go_wp2
              go_ret
              exact ⟨by rw [HXY.out]; rfl, below_drewN hbel _⟩
          · obtain rfl : xs.length = k := by omega
            have hxy : r = true := by
              have h := HE.out
              rw [List.take_length, HL.out, List.take_length] at h
              rw [← HR.out, h]; simp
            have HXY := Lib.hid hxy
            clear hxy
            go_wp2
            go_ret
            exact ⟨by rw [HXY.out]; rfl, hbel⟩
  · have hne : ((xs.length : Int) != (ys.length : Int)) = true := by rw [bne_iff_ne]; omega
    rw [show decide (xs = ys) = false from by rw [decide_eq_false_iff_not]; rintro rfl; exact hlen rfl]
    clear hlen
    go_enter Try.func17, Try.ntmps17
    go_wp2
    go_ret
    exact ⟨rfl, Below.refl _ _⟩
end Go.Proofs.Ytnakdlneennofaa
