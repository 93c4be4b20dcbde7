/- Fields, their sizes, and the contracts of the functions that measure them. Conditions: the sizes' sum is no more than 2^60. -/
import Derived.Test.YtfkmcbkhodppmaaT
import Derived.Deep.CutBlock
import Derived.Deep.DeepCutAuto
import Derived.Outline
import Derived.BigQuiet
import Derived.Deep.QuietTactic
namespace Go.Proofs.Ytfkmcbkhodppmaa
open Go.RowKit

abbrev Fld := ByteArray × ByteArray
def fv (x : Fld) : List Value := [.string x.1, .string x.2]
def cf (l : List Fld) : List Value := l.flatMap fv
theorem cf_len (l : List Fld) : (cf l).length = l.length * 2 := by
  induction l with
  | nil => rfl
  | cons x l ih =>
    have e : cf (x :: l) = .string x.1 :: .string x.2 :: cf l := rfl
    rw [e, List.length_cons, List.length_cons, List.length_cons, ih]; omega
theorem cf_append (l m : List Fld) : cf (l ++ m) = cf l ++ cf m := by simp [cf]
theorem cf_at (l : List Fld) : ∀ i x, l[i]? = some x → (cf l)[i * 2]? = some (.string x.1) ∧ (cf l)[i * 2 + 1]? = some (.string x.2) := by
  induction l with
  | nil => intro i x hx; simp at hx
  | cons y l ih =>
    intro i x hx
    have e : cf (y :: l) = .string y.1 :: .string y.2 :: cf l := rfl
    rw [e]
    match i with
    | 0 =>
      simp at hx
      subst hx
      exact ⟨rfl, rfl⟩
    | i + 1 =>
      have := ih i x (by simpa using hx)
      rw [show (i + 1) * 2 = i * 2 + 1 + 1 from by omega]
      simpa using this
theorem cf_drop (l : List Fld) : ∀ k, (cf l).drop (k * 2) = cf (l.drop k) := by
  induction l with
  | nil => intro k; simp [cf]
  | cons y l ih =>
    intro k
    match k with
    | 0 => simp
    | k + 1 =>
      have e : cf (y :: l) = .string y.1 :: .string y.2 :: cf l := rfl
      rw [e, show (k + 1) * 2 = k * 2 + 1 + 1 from by omega]
      simpa using ih k
theorem cf_one (l : List Fld) : ∀ u ∈ cf l, u.oneCell' = true := by
  intro u hu
  simp [cf, fv] at hu
  obtain ⟨a, b, _, rfl | rfl⟩ := hu <;> rfl
def sz (x : Fld) : Nat := x.1.size + x.2.size + 32
def szL (l : List Fld) : Nat := (l.map sz).sum
theorem szL_append (l m : List Fld) : szL (l ++ m) = szL l + szL m := by simp [szL]
theorem szL_cons (x : Fld) (l : List Fld) : szL (x :: l) = sz x + szL l := by simp [szL]
theorem szL_take (l : List Fld) (k : Nat) (x : Fld) (hx : l[k]? = some x) : szL (l.take (k + 1)) = szL (l.take k) + sz x := by
  rw [List.take_add_one, hx, szL_append]
  simp [szL]
theorem szL_take_le (l : List Fld) (k : Nat) : szL (l.take k) ≤ szL l := by
  conv => rhs; rw [← List.take_append_drop k l, szL_append]
  omega
theorem info26 : (Try.prog.info? 26).map (fun i => (i.zero, i.size, i.bytes)) = some (some (.agg #[.string ByteArray.empty, .string ByteArray.empty]), 2, 32) := by kernel_rfl

/-- The two cells of an element. -/
theorem Rd.two {w : World} {g o n c : Nat} {l : List Fld} (h : Rd w 2 (.slice (some ⟨g, o, none⟩) n c) n (cf l)) (hn : l.length = n) (i : Nat) (x : Fld) (hx : l[i]? = some x) :
    w.cell? ⟨g, o + i * 2, none⟩ = some (.string x.1) ∧ w.cell? ⟨g, o + i * 2 + 1, none⟩ = some (.string x.2) ∧ g < w.heap.size := by
  have hi : i < l.length := (List.getElem?_eq_some_iff.1 hx).1
  rcases h.2 with ⟨_, _, _, h0⟩ | ⟨b, off, cap, he, hnc, hb, hc⟩
  · omega
  simp at he
  obtain ⟨⟨rfl, rfl⟩, rfl⟩ := he
  have h1 := cf_at l i x hx
  rw [hc (i * 2) (by omega), Nat.add_assoc, hc (i * 2 + 1) (by omega)]
  exact ⟨h1.1, h1.2, hb (by omega)⟩
theorem Rd.some {w : World} {a : Option Addr} {n c sz : Nat} {xs : List Value} (h : Rd w sz (.slice a n c) n xs) (hn : 0 < n) : ∃ g o, a = Option.some ⟨g, o, none⟩ := by
  rcases h.2 with ⟨_, _, _, h0⟩ | ⟨b, off, cap, he, _⟩
  · omega
  · simp at he
    exact ⟨_, _, he.1⟩

set_option maxHeartbeats 1000000 in
theorem fieldSize_any (w : World) (x : Value) (l : List Fld) (hx : Rd w 2 x l.length (cf l)) (hl : szL l ≤ 1152921504606846976) (hn : l.length ≤ 1099511627776) :
    Calls Try.prog 26 #[x] w fun e w' => e = .returned (.int .i64 (szL l)) ∧ Touch [] w w' := by
  obtain ⟨a, c, rfl⟩ := hx.form
  have HX := Lib.hid hx
  have HL := Lib.hid hl
  clear hx hl
  go_enter Try.func26, Try.ntmps26
  go_wp2_with fail
  go_loopw [8, 3] (fun i n wr => ∃ k : Nat, k ≤ l.length ∧ i = .int .i64 (k : Int) ∧ n = .int .i64 (szL (l.take k) : Int) ∧ Touch [] w wr) (fun i _ _ => l.length - (intOf i).toNat)
  case atStart => exact ⟨0, by omega, rfl, rfl, Touch.refl _ _⟩
  case round =>
    obtain ⟨k, hk, rfl, rfl, hT⟩ := hrel
    have HT := Lib.hid hT
    clear hT
    by_cases hlt : k < l.length
    · obtain ⟨x, hx⟩ : ∃ x, l[k]? = some x := ⟨_, List.getElem?_eq_getElem hlt⟩
      obtain ⟨g, o, rfl⟩ := HX.out.some (by omega)
      obtain ⟨c1, c2, hg⟩ := (HX.out.touch HT.out (by simp)).two rfl k x hx
      have hsz := szL_take l k x hx
      have hle := szL_take_le l (k + 1)
      obtain ⟨s1, s2⟩ := x
      have e1 : sz (s1, s2) = s1.size + s2.size + 32 := rfl
      obtain ⟨m, hm⟩ : ∃ m, szL (l.take k) = m := ⟨_, rfl⟩
      rw [hm] at hsz ⊢
      have hb1 : m + (s1.size + s2.size + 32) ≤ 1152921504606846976 := by have := HL.out; omega
      have HSZ := Lib.hid hsz
      have HM := Lib.hid hm
      simp only at c1 c2
      clear hx hsz hle e1 hm
      go_wp2_with fail
      go_roundw
      case rel => exact ⟨k + 1, by omega, by go_num, by rw [HSZ.out]; simp [sz], HT.out.alloc _⟩
      case measure => simp [intOf]; omega
    · obtain rfl : k = l.length := by omega
      go_wp2_with fail
      go_ret
      exact ⟨by simp, HT.out⟩

theorem size_any (w : World) (x : Fld) (h1 : x.1.size ≤ 1152921504606846976) (h2 : x.2.size ≤ 1152921504606846976) :
    Calls Try.prog 25 #[.agg #[.string x.1, .string x.2]] w fun e w' => e = .returned (.int .i64 (sz x)) ∧ Touch [] w w' := by
  obtain ⟨s1, s2⟩ := x
  simp only at h1 h2
  go_enter Try.func25, Try.ntmps25
  go_wp2_with fail
  go_ret
  exact ⟨by simp [sz], (Touch.refl _ _).alloc _⟩

set_option maxHeartbeats 1000000 in
theorem refSize_any (w : World) (x : Value) (l : List Fld) (hx : Rd w 2 x l.length (cf l)) (hl : szL l ≤ 1152921504606846976) (hn : l.length ≤ 1099511627776) :
    Calls Try.prog 17 #[x] w fun e w' => e = .returned (.int .i64 (szL l)) ∧ ∃ n, w' = w.drewN n := by
  obtain ⟨a, c, rfl⟩ := hx.form
  have HX := Lib.hid hx
  have HL := Lib.hid hl
  clear hx hl
  go_enter Try.func17, Try.ntmps17
  go_wp2_with fail
  go_loopw [4, 3] (fun i n wr => ∃ k : Nat, k ≤ l.length ∧ i = .int .i64 (k : Int) ∧ n = .int .i64 (szL (l.take k) : Int) ∧ ∃ n, wr = w.drewN n) (fun i _ _ => l.length - (intOf i).toNat)
  case atStart => exact ⟨0, by omega, rfl, rfl, 0, rfl⟩
  case round =>
    obtain ⟨k, hk, rfl, rfl, nd, rfl⟩ := hrel
    by_cases hlt : k < l.length
    · obtain ⟨x, hx⟩ : ∃ x, l[k]? = some x := ⟨_, List.getElem?_eq_getElem hlt⟩
      obtain ⟨g, o, rfl⟩ := HX.out.some (by omega)
      obtain ⟨c1, c2, hg⟩ := HX.out.two rfl k x hx
      have hsz := szL_take l k x hx
      have hle := szL_take_le l (k + 1)
      obtain ⟨s1, s2⟩ := x
      have e1 : sz (s1, s2) = s1.size + s2.size + 32 := rfl
      obtain ⟨m, hm⟩ : ∃ m, szL (l.take k) = m := ⟨_, rfl⟩
      rw [hm] at hsz ⊢
      have hb1 : m + (s1.size + s2.size + 32) ≤ 1152921504606846976 := by have := HL.out; omega
      have HSZ := Lib.hid hsz
      have HM := Lib.hid hm
      simp only at c1 c2
      have hk0 : (0 : Int) ≤ (k : Int) := by omega
      have hk1 : (k : Int) < (l.length : Int) := by omega
      clear hx hsz hle e1 hm
      go_wp2_with fail
      go_quiet (fail)
      go_wp2_with fail
      go_roundw
      case rel => exact ⟨k + 1, by omega, by go_num, by rw [HSZ.out]; simp [sz], _, rfl⟩
      case measure => simp [intOf]; omega
    · obtain rfl : k = l.length := by omega
      go_wp2_with fail
      go_ret
      exact ⟨by simp, _, rfl⟩
end Go.Proofs.Ytfkmcbkhodppmaa
