/- The walks of 'Light', 'Find' (the program's and the document's), 'Same'. Conditions: the lists' cells are where the slices say; a list that is searched is no longer than 2^40. -/
import Derived.Test.YtnakdlneennofaaD
import Derived.Maps.AppendAt
namespace Go.Proofs.Ytnakdlneennofaa
open Go.RowKit

def lenF (xs : List Fld) : Int := (xs.map fun x => ((x.1.size : Int) + x.2.size)).sum
theorem lenF_append (xs ys : List Fld) : lenF (xs ++ ys) = lenF xs + lenF ys := by
  simp only [lenF, List.map_append, List.sum_append]
theorem lenF_one (x : Fld) : lenF [x] = (x.1.size : Int) + x.2.size := by simp [lenF]
theorem lenF_nonneg (xs : List Fld) : 0 ≤ lenF xs := by
  induction xs with
  | nil => decide
  | cons x l ih => simp [lenF] at *; omega
theorem lenF_take (xs : List Fld) (k : Nat) (hk : k < xs.length) : lenF (xs.take (k + 1)) = lenF (xs.take k) + ((xs.getD k default).1.size + (xs.getD k default).2.size) := by
  rw [List.take_succ_eq_append_getElem hk, lenF_append, lenF_one]
  simp [List.getD_eq_getElem?_getD, hk]
theorem lenF_take_le (xs : List Fld) (k : Nat) : lenF (xs.take k) ≤ lenF xs := by
  have h : lenF xs = lenF (xs.take k) + lenF (xs.drop k) := by rw [← lenF_append, List.take_append_drop]
  have := lenF_nonneg (xs.drop k)
  omega
theorem sizeF_lenF (xs : List Fld) : sizeF xs = lenF xs + 32 * xs.length := by
  induction xs with
  | nil => rfl
  | cons x l ih =>
    have e1 : sizeF (x :: l) = sizeF [x] + sizeF l := sizeF_append [x] l
    have e2 : lenF (x :: l) = lenF [x] + lenF l := lenF_append [x] l
    rw [e1, e2, sizeF_one, lenF_one, ih]
    simp; omega
def lightF (xs : List Fld) : Bool := decide (xs.length ≤ 70) && decide (lenF xs ≤ 3000)

theorem light_any (a : Option Addr) (cap : Nat) (xs : List Fld) (w : World) (hf : IsF w a xs) (hm : ∀ x ∈ xs, x.1.size ≤ 140737488355328 ∧ x.2.size ≤ 140737488355328) :
    Calls Try.prog 14 #[.slice a xs.length cap] w fun e w' => e = .returned (.bool (lightF xs)) ∧ Below w.heap.size w w' := by
  by_cases h70 : 70 < xs.length
  · rw [show lightF xs = false from by simp only [lightF, Bool.and_eq_false_iff]; left; simp; omega]
    go_enter Try.func14, Try.ntmps14
    go_wp2
    go_ret
    exact ⟨rfl, Below.refl _ _⟩
  rcases hf with rfl | ⟨b, off, rfl, hb, hc⟩
  · go_enter Try.func14, Try.ntmps14
    go_wp2
    refine wp_loop_rounds 1 ?_
    rw [rounds_succ]
    go_wp2
    go_ret
    exact ⟨rfl, Below.refl _ _⟩
  · have HN : ∀ k, 3000 < lenF (xs.take k) → lightF xs = false := by
      intro k hk
      have := lenF_take_le xs k
      simp only [lightF, Bool.and_eq_false_iff]; right; simp; omega
    have HY : lenF xs ≤ 3000 → lightF xs = true := by
      intro hk
      simp only [lightF, Bool.and_eq_true]; constructor <;> simp <;> omega
    generalize lightF xs = r at *
    go_enter Try.func14, Try.ntmps14
    go_wp2
    go_loopw [3, 4] (fun n i wr => ∃ k : Nat, k ≤ xs.length ∧ i = .int .i64 k ∧ n = .int .i64 (lenF (xs.take k)) ∧ lenF (xs.take k) ≤ 3000 ∧ Below w.heap.size w wr) (fun _ i _ => xs.length - (intOf i).toNat)
    case atStart => exact ⟨0, Nat.zero_le _, rfl, rfl, by rw [List.take_zero]; decide, Below.refl _ _⟩
    case round =>
      obtain ⟨k, hk, rfl, rfl, hle, hbel⟩ := hrel
      have hn0 := lenF_nonneg (xs.take k)
      by_cases hlt : k < xs.length
      · have hsu := lenF_take xs k hlt
        obtain ⟨n, hn⟩ : ∃ n, lenF (xs.take k) = n := ⟨_, rfl⟩
        rw [hn] at hsu hn0 hle
        obtain ⟨x, hx⟩ : ∃ x, xs.getD k default = x := ⟨_, rfl⟩
        have hmx := hm x (by rw [← hx, List.getD_eq_getElem?_getD, List.getElem?_eq_getElem hlt]; exact List.getElem_mem _)
        obtain ⟨hm1, hm2⟩ := hmx
        obtain ⟨hc1, hc2⟩ := hc k hlt
        rw [hx] at hc1 hc2 hsu
        rw [← (bcell hbel).1 _ _ hb] at hc1 hc2
        rw [hn]
        have hk2 : (k : Int) < (xs.length : Int) := by omega
        by_cases hov : 3000 < n + ((x.1.size : Int) + x.2.size)
        · have hr := HN (k + 1) (by rw [hsu]; exact hov)
          have HR := Lib.hid hr
          clear hsu hn hx hc hm hr HN HY
          go_wp2
          go_quiet (fail)
          go_wp2
          go_ret
          exact ⟨by rw [HR.out]; rfl, below_drewN hbel _⟩
        · have H1 := Lib.hid hsu
          clear hsu hn hx hc hm HN HY
          go_wp2
          go_quiet (fail)
          go_wp2
          go_roundw
          case rel => exact ⟨k + 1, by omega, by go_num, by rw [H1.out], by rw [H1.out]; omega, below_drewN hbel _⟩
          case measure => simp [intOf]; omega
      · obtain rfl : xs.length = k := by omega
        rw [List.take_length] at *
        have HR := Lib.hid (HY hle)
        clear HN HY hc hm
        go_wp2
        go_ret
        exact ⟨by rw [HR.out]; rfl, hbel⟩

def findF (xs : List Fld) (name : ByteArray) : List ByteArray := (xs.filter fun x => x.1.toList == name.toList).map (·.2)
theorem findF_take (xs : List Fld) (name : ByteArray) (k : Nat) (hk : k < xs.length) :
    findF (xs.take (k + 1)) name = findF (xs.take k) name ++ (if ((xs.getD k default).1.toList == name.toList) = true then [(xs.getD k default).2] else []) := by
  rw [List.take_succ_eq_append_getElem hk]
  simp only [findF, List.filter_append, List.map_append, List.filter_cons, List.filter_nil, List.getD_eq_getElem?_getD, List.getElem?_eq_getElem hk, Option.getD_some]
  split <;> simp
theorem findF_take_len (xs : List Fld) (name : ByteArray) (k : Nat) : (findF (xs.take k) name).length ≤ k := by
  simp only [findF, List.length_map]
  exact Nat.le_trans (List.length_filter_le _ _) (by simp; omega)

theorem info9 : (Try.prog.info? 9).map (fun i => (i.zero, i.size, i.bytes)) = some (some (.string ByteArray.empty), 1, 16) := by kernel_rfl

/-- What a list of texts that a call has made is good for. -/
theorem IsS_own {w : World} {B : Nat} {v : Value} {xs : List ByteArray} (h : w.ownsRow B 9 1 v xs.length (xs.map Value.string)) :
    ∃ a cap, v = .slice a xs.length cap ∧ IsS w a xs := by
  rcases h.2 with ⟨rfl, h0⟩ | ⟨g, cap, cur, rfl, hb, hg, _⟩
  · exact ⟨none, 0, by rw [h0], .inl (List.length_eq_zero_iff.1 h0)⟩
  · refine ⟨_, _, rfl, .inr ⟨g, 0, rfl, (Array.getElem?_eq_some_iff.1 hg).1, fun i hi => ?_⟩⟩
    have := h.cellAt i (by omega)
    rw [Nat.zero_add, this]
    simp [List.getD_eq_getElem?_getD, hi]

theorem one_new2 (w : World) (o : Obj) (x : Value) (t : TypeId) : ∀ j u, [x][j]? = some u → ((w.alloc o).alloc (.cells #[x] t)).cell? ((⟨w.heap.size + 1, 0, none⟩ : Addr).add j) = some u := by
  have h := cell_one_new (w.alloc o) x t
  rw [show (w.alloc o).heap.size = w.heap.size + 1 from by simp] at h
  exact h
theorem one_str (x : ByteArray) : ∀ u ∈ [Value.string x], u.oneCell' = true := by
  intro u hu; simp at hu; subst hu; rfl

theorem find_any (a : Option Addr) (cap : Nat) (xs : List Fld) (name : ByteArray) (w : World) (hl : xs.length ≤ 1099511627776) (hf : IsF w a xs) :
    Calls Try.prog 18 #[.slice a xs.length cap, .string name] w fun e w' => ∃ a' cap', e = .returned (.slice a' (findF xs name).length cap') ∧ IsS w' a' (findF xs name) ∧ Below w.heap.size w w' := by
  rcases hf with rfl | ⟨b, off, rfl, hb, hc⟩
  · go_enter Try.func18, Try.ntmps18
    go_wp2
    refine wp_loop_rounds 1 ?_
    rw [rounds_succ]
    go_wp2
    go_ret
    exact ⟨_, _, rfl, .inl rfl, Below.refl _ _⟩
  · obtain ⟨i0, hi, hz0, hz1, hz2⟩ := info_parts info9
    go_enter Try.func18, Try.ntmps18
    go_wp2
    go_loopw [5, 10] (fun v i wr => ∃ k : Nat, k ≤ xs.length ∧ i = .int .i64 k ∧ wr.ownsRow w.heap.size 9 1 v (findF (xs.take k) name).length ((findF (xs.take k) name).map Value.string) ∧ Below w.heap.size w wr) (fun _ i _ => xs.length - (intOf i).toNat)
    case atStart => exact ⟨0, Nat.zero_le _, rfl, World.ownsRow_nil _ _ _ _, Below.refl _ _⟩
    case round =>
      obtain ⟨k, hk, rfl, hown, hbel⟩ := hrel
      by_cases hlt : k < xs.length
      · have hsu := findF_take xs name k hlt
        have hfl := findF_take_len xs name k
        obtain ⟨x, hx⟩ : ∃ x, xs.getD k default = x := ⟨_, rfl⟩
        obtain ⟨hc1, hc2⟩ := hc k hlt
        rw [hx] at hc1 hc2 hsu
        rw [← (bcell hbel).1 _ _ hb] at hc1 hc2
        have hbs := hbel.size
        cases heq : x.1.toList == name.toList with
        | true =>
          rw [heq, if_pos rfl] at hsu
          have HS := Lib.hid hsu
          clear hsu hx hc
          go_wp2_with (at_builtin; refine wpList_append_own _ rfl (.tmp 18) (.tmp 21) 24 rfl w.heap.size 9 i0 (.string ByteArray.empty) 1 16 Try.underlying24 hi hz0 hz1 hz2 rfl (by decide) _ _ _ rfl ((hown.alloc _).alloc _) ⟨wr.heap.size + 1, 0, none⟩ 1 1 [.string x.2] rfl rfl (one_new2 _ _ _ _) (one_str _) (by unfold maxLen; omega) (by omega) (by simp; omega) ?_; intro v1 w1 hown1 hgrow1 hnil1)
          have hb2 := ((hbel.alloc hbs (.cells #[.string x.1, .string x.2] 32)).alloc (by simp; omega) (.cells #[.string x.2] 9)).grown hgrow1 (by simp; omega) (fun k hk => (hown.lt k hk).1)
          clear hgrow1 hnil1 hown hbel hc1 hc2
          go_roundw
          case rel => exact ⟨k + 1, by omega, by go_num, by rw [HS.out, List.length_append, List.map_append]; exact hown1, hb2⟩
          case measure => simp [intOf]; omega
        | false =>
          rw [heq, if_neg (by simp), List.append_nil] at hsu
          have HS := Lib.hid hsu
          clear hsu hx hc
          go_wp2
          go_roundw
          case rel => exact ⟨k + 1, by omega, by go_num, by rw [HS.out]; exact hown.alloc _, hbel.alloc hbs _⟩
          case measure => simp [intOf]; omega
      · obtain rfl : xs.length = k := by omega
        rw [List.take_length] at hown
        obtain ⟨a', cap', rfl, hs⟩ := IsS_own hown
        go_wp2
        go_ret
        exact ⟨_, _, rfl, hs, hbel⟩
theorem findR_any (a : Option Addr) (cap : Nat) (xs : List Fld) (name : ByteArray) (w : World) (hl : xs.length ≤ 1099511627776) (hf : IsF w a xs) :
    Calls Try.prog 19 #[.slice a xs.length cap, .string name] w fun e w' => ∃ a' cap', e = .returned (.slice a' (findF xs name).length cap') ∧ IsS w' a' (findF xs name) ∧ Below w.heap.size w w' := by
  rcases hf with rfl | ⟨b, off, rfl, hb, hc⟩
  · go_enter Try.func19, Try.ntmps19
    go_wp2
    refine wp_loop_rounds 1 ?_
    rw [rounds_succ]
    go_wp2
    go_ret
    exact ⟨_, _, rfl, .inl rfl, Below.refl _ _⟩
  · obtain ⟨i0, hi, hz0, hz1, hz2⟩ := info_parts info9
    go_enter Try.func19, Try.ntmps19
    go_wp2
    go_loopw [5, 6] (fun v i wr => ∃ k : Nat, k ≤ xs.length ∧ i = .int .i64 k ∧ wr.ownsRow w.heap.size 9 1 v (findF (xs.take k) name).length ((findF (xs.take k) name).map Value.string) ∧ Below w.heap.size w wr) (fun _ i _ => xs.length - (intOf i).toNat)
    case atStart => exact ⟨0, Nat.zero_le _, rfl, World.ownsRow_nil _ _ _ _, Below.refl _ _⟩
    case round =>
      obtain ⟨k, hk, rfl, hown, hbel⟩ := hrel
      by_cases hlt : k < xs.length
      · have hsu := findF_take xs name k hlt
        have hfl := findF_take_len xs name k
        obtain ⟨x, hx⟩ : ∃ x, xs.getD k default = x := ⟨_, rfl⟩
        obtain ⟨hc1, hc2⟩ := hc k hlt
        rw [hx] at hc1 hc2 hsu
        rw [← (bcell hbel).1 _ _ hb] at hc1 hc2
        have hbs := hbel.size
        cases heq : x.1.toList == name.toList with
        | true =>
          rw [heq, if_pos rfl] at hsu
          have HS := Lib.hid hsu
          clear hsu hx hc
          go_wp2_with (at_builtin; refine wpList_append_own _ rfl (.tmp 20) (.tmp 26) 24 rfl w.heap.size 9 i0 (.string ByteArray.empty) 1 16 Try.underlying24 hi hz0 hz1 hz2 rfl (by decide) _ _ _ rfl (hown.alloc _) ⟨wr.heap.size, 0, none⟩ 1 1 [.string x.2] rfl rfl (cell_one_new _ _ _) (one_str _) (by unfold maxLen; omega) (by omega) (by simp; omega) ?_; intro v1 w1 hown1 hgrow1 hnil1)
          have hb2 := (hbel.alloc hbs (.cells #[.string x.2] 9)).grown hgrow1 (by simp; omega) (fun k hk => (hown.lt k hk).1)
          clear hgrow1 hnil1 hown hbel hc1 hc2
          go_roundw
          case rel => exact ⟨k + 1, by omega, by go_num, by rw [HS.out, List.length_append, List.map_append]; exact hown1, hb2⟩
          case measure => simp [intOf]; omega
        | false =>
          rw [heq, if_neg (by simp), List.append_nil] at hsu
          have HS := Lib.hid hsu
          clear hsu hx hc
          go_wp2
          go_roundw
          case rel => exact ⟨k + 1, by omega, by go_num, by rw [HS.out]; exact hown, hbel⟩
          case measure => simp [intOf]; omega
      · obtain rfl : xs.length = k := by omega
        rw [List.take_length] at hown
        obtain ⟨a', cap', rfl, hs⟩ := IsS_own hown
        go_wp2
        go_ret
        exact ⟨_, _, rfl, hs, hbel⟩

theorem same_any (a1 a2 : Option Addr) (cap1 cap2 : Nat) (xs ys : List Fld) (w : World) (hl : xs.length ≤ 1152921504606846976) (hl2 : ys.length ≤ 1152921504606846976) (hf : IsF w a1 xs) (hg : IsF w a2 ys) :
    Calls Try.prog 20 #[.slice a1 xs.length cap1, .slice a2 ys.length cap2] w fun e w' => e = .returned (.bool (decide (xs = ys))) ∧ Below w.heap.size w w' := by
  have he := equal_any a1 a2 cap1 cap2 xs ys w hl hl2 hf hg
  have HE := Lib.hid he
  clear he
  go_enter Try.func20, Try.ntmps20
  go_wp2_with fail
  refine HE.out.mono ?_
  rintro e w' ⟨rfl, hb⟩
  go_wp2_with fail
  go_ret
  exact ⟨rfl, hb⟩

theorem isF_one (w : World) (x y : ByteArray) : IsF (w.alloc (.cells #[.string x, .string y] 32)) (some ⟨w.heap.size, 0, none⟩) [(x, y)] := by
  refine .inr ⟨_, _, rfl, by simp, fun i hi => ?_⟩
  obtain rfl : i = 0 := by simp at hi; exact hi
  constructor
  · rw [World.cell?_alloc_new]; rfl
  · rw [World.cell?_alloc_new]; rfl

theorem known_any (w : World) : Calls Try.prog 7 #[] w fun e w' => e = .returned (.bool true) ∧ Below w.heap.size w w' := by
  have n1 := name_any { data := #[97, 99, 99, 101, 112, 116, 45, 120] } w (by decide)
  have n2 := name_any { data := #[65, 99, 99, 101, 112, 116] } w (by decide)
  have n3 := name_any { data := #[] } w (by decide)
  have n4 := value_any { data := #[97, 32, 98] } w (by decide)
  have n5 := value_any { data := #[32, 97] } w (by decide)
  have n6 := pseudo_any { data := #[58, 112, 97, 116, 104] } w
  have n7 := pseudo_any { data := #[112, 97, 116, 104] } w
  rw [show nameB { data := #[97, 99, 99, 101, 112, 116, 45, 120] } = true from by decide +kernel] at n1
  rw [show nameB { data := #[65, 99, 99, 101, 112, 116] } = false from by decide +kernel] at n2
  rw [show nameB { data := #[] } = false from by decide +kernel] at n3
  rw [show valueB { data := #[97, 32, 98] } = true from by decide +kernel] at n4
  rw [show valueB { data := #[32, 97] } = false from by decide +kernel] at n5
  rw [show pseudoB { data := #[58, 112, 97, 116, 104] } = true from by decide +kernel] at n6
  rw [show pseudoB { data := #[112, 97, 116, 104] } = false from by decide +kernel] at n7
  have n8 := size_any (some ⟨w.heap.size, 0, none⟩) 1 [({ data := #[97] }, { data := #[98, 99] })] (w.alloc (.cells #[.string { data := #[97] }, .string { data := #[98, 99] }] 32)) (by decide) (isF_one w _ _) (by decide)
  rw [show sizeF [({ data := #[97] }, { data := #[98, 99] })] = 35 from by decide] at n8
  have N1 := Lib.hid n1
  have N2 := Lib.hid n2
  have N3 := Lib.hid n3
  have N4 := Lib.hid n4
  have N5 := Lib.hid n5
  have N6 := Lib.hid n6
  have N7 := Lib.hid n7
  have N8 := Lib.hid n8
  clear n1 n2 n3 n4 n5 n6 n7 n8
  go_enter Try.func7, Try.ntmps7
  go_wp2_with fail
  refine N1.out.mono ?_
  rintro e w' ⟨rfl, rfl⟩
  go_wp2_with fail
  refine N2.out.mono ?_
  rintro e w' ⟨rfl, rfl⟩
  go_wp2_with fail
  refine N3.out.mono ?_
  rintro e w' ⟨rfl, rfl⟩
  go_wp2_with fail
  refine N4.out.mono ?_
  rintro e w' ⟨rfl, rfl⟩
  go_wp2_with fail
  refine N5.out.mono ?_
  rintro e w' ⟨rfl, rfl⟩
  go_wp2_with fail
  refine N6.out.mono ?_
  rintro e w' ⟨rfl, rfl⟩
  go_wp2_with fail
  refine N7.out.mono ?_
  rintro e w' ⟨rfl, rfl⟩
  go_wp2_with fail
  refine N8.out.mono ?_
  rintro e w' ⟨rfl, hb⟩
  go_wp2_with fail
  go_ret
  exact ⟨rfl, ((Below.refl _ _).alloc (Nat.le_refl _) _).trans (hb.mono (by simp))⟩
end Go.Proofs.Ytnakdlneennofaa
