/- The walk of the statement on what is found in fields, where both lists are light. Conditions: the lists' cells are where the slices say. Printed by gen3i.py. -/
import Derived.Test.YtnakdlneennofaaH
namespace Go.Proofs.Ytnakdlneennofaa
open Go.RowKit

theorem light_len (xs : List Fld) (h : lightF xs = true) : xs.length ≤ 70 ∧ sizeF xs ≤ 5240 := by
  simp only [lightF, Bool.and_eq_true, decide_eq_true_eq] at h
  rw [sizeF_lenF]
  omega
theorem light_mem (xs : List Fld) (h : lightF xs = true) (k : Nat) (hk : k < xs.length) : 0 ≤ sizeF [xs.getD k default] ∧ sizeF [xs.getD k default] ≤ 5240 := by
  have h1 := (light_len xs h).2
  have h2 := sizeF_take xs k hk
  have h3 := sizeF_take_le xs (k + 1)
  have h4 := sizeF_nonneg (xs.take k)
  have h5 := sizeF_nonneg [xs.getD k default]
  rw [sizeF_one] at *
  omega

theorem finds_two (a1 a2 : Option Addr) (cap1 cap2 : Nat) (xs ys : List Fld) (name : ByteArray) (w : World) (hf : IsF w a1 xs) (hg : IsF w a2 ys)
    (hm1 : ∀ x ∈ xs, x.1.size ≤ 140737488355328 ∧ x.2.size ≤ 140737488355328) (hm2 : ∀ x ∈ ys, x.1.size ≤ 140737488355328 ∧ x.2.size ≤ 140737488355328) (hx : lightF xs = true) (hy : lightF ys = true) :
    Calls Try.prog 5 #[.slice a1 xs.length cap1, .slice a2 ys.length cap2, .string name, .bool false] w fun e w' => e = .returned (.bool true) ∧ Below w.heap.size w w' := by
    have HF := Lib.hid hf
    have HG := Lib.hid hg
    have HM1 := Lib.hid hm1
    have HM2 := Lib.hid hm2
    clear hf hg hm1 hm2
    go_enter Try.func5, Try.ntmps5
    go_wp2_with fail
    refine (known_any _).mono ?_
    rintro e w1 ⟨rfl, hb⟩
    have HF1 := Lib.hid (HF.out.below hb)
    have HG1 := Lib.hid (HG.out.below hb)
    go_wp2_with fail
    refine (light_any _ _ _ _ HF1.out HM1.out).mono ?_
    rintro e w2 ⟨rfl, hb2⟩
    have HF2 := Lib.hid (HF1.out.below hb2)
    have HG2 := Lib.hid (HG1.out.below hb2)
    go_wp2_with fail
    refine (light_any _ _ _ _ HG2.out HM2.out).mono ?_
    rintro e w3 ⟨rfl, hb3⟩
    have hfa := HF2.out.below hb3
    have hga := HG2.out.below hb3
    have hb23 := hb2.trans (hb3.mono hb2.size)
    have hba := hb.trans (hb23.mono hb.size)
    have HL1 := Lib.hid hx
    have HL2 := Lib.hid hy
    clear hb hb2 hb3 hb23
    have hyl := (light_len ys hy).1
    have hya : ys.length ≤ 1000 := by omega

    have HFa := Lib.hid hfa
    have HGa := Lib.hid hga
    have HBa := Lib.hid hba
    clear hfa hga hba
    go_wp2_with fail
    go_loopw [9, 10] (fun n i wr => ∃ k : Nat, k ≤ xs.length ∧ i = .int .i64 k ∧ n = .int .i64 (sizeF (xs.take k)) ∧ Below w3.heap.size w3 wr) (fun _ i _ => xs.length - (intOf i).toNat)
    case atStart => exact ⟨0, Nat.zero_le _, rfl, rfl, Below.refl _ _⟩
    case round =>
      obtain ⟨k, hk, rfl, rfl, hbel⟩ := hrel
      have HBr := Lib.hid hbel
      clear hbel
      have hn0 := sizeF_nonneg (xs.take k)
      have hxl := (light_len xs HL1.out).1
      by_cases hlt : k < xs.length
      · have hsu := sizeF_take xs k hlt
        have hsl := sizeF_take_le xs (k + 1)
        have hml := light_mem xs HL1.out k hlt
        obtain ⟨n, hn⟩ : ∃ n, sizeF (xs.take k) = n := ⟨_, rfl⟩
        rw [hn] at hsu hn0
        obtain ⟨b, off, had, hbl, hc⟩ : ∃ b off, a1 = some ⟨b, off, none⟩ ∧ b < wr.heap.size ∧ ∀ i, i < xs.length → wr.cell? ⟨b, off + i * 2, none⟩ = some (.string (xs.getD i default).1) ∧ wr.cell? ⟨b, off + i * 2 + 1, none⟩ = some (.string (xs.getD i default).2) := by
          rcases HFa.out.below HBr.out with rfl | h
          · simp at hlt
          · exact h
        subst had
        obtain ⟨hc1, hc2⟩ := hc k hlt
        obtain ⟨x, hx⟩ : ∃ x, xs.getD k default = x := ⟨_, rfl⟩
        rw [hx] at hc1 hc2 hsu hml
        have hcall := size_any (some ⟨wr.heap.size, 0, none⟩) 1 [x] (wr.alloc (.cells #[.string x.1, .string x.2] 32)) (by simp) (isF_one wr x.1 x.2) (by have := hml.2; omega)
        obtain ⟨z, hz⟩ : ∃ z, sizeF [x] = z := ⟨_, rfl⟩
        rw [hz] at hcall hml
        have hz' : (x.1.size : Int) + x.2.size + 32 = z := by rw [← sizeF_one]; exact hz
        rw [hz'] at hsu
        have H1 := Lib.hid hsu
        have hbd : n + z ≤ 5240 := by have := (light_len xs HL1.out).2; omega
        obtain ⟨hz0, hz1⟩ := hml
        rw [hn]
        have HC := Lib.hid hcall
        clear hsu hn hx hsl hc hcall hz hz'
        go_wp2_with fail
        refine HC.out.mono ?_
        rintro e w5 ⟨rfl, hb5⟩
        have HB5 := Lib.hid (HBr.out.trans (((Below.refl _ _).alloc (Nat.le_refl _) (.cells #[.string x.1, .string x.2] 32)).trans (hb5.mono (by simp)) |>.mono HBr.out.size))
        clear hb5
        go_wp2_with fail
        go_roundw
        case rel => exact ⟨k + 1, by omega, by go_num, by rw [H1.out], HB5.out⟩
        case measure => simp [intOf]; omega
      · obtain rfl : xs.length = k := by omega
        rw [List.take_length]
        have HFr := Lib.hid (HFa.out.below HBr.out)
        have HGr := Lib.hid (HGa.out.below HBr.out)
        have hxz := (light_len xs HL1.out).2
        have HBw := Lib.hid (HBa.out.trans (HBr.out.mono HBa.out.size))
        go_wp2_with fail
        refine (size_any _ _ _ _ (by omega) HFr.out (by omega)).mono ?_
        rintro e w5 ⟨rfl, hb5⟩
        have HF5 := Lib.hid (HFr.out.below hb5)
        have HG5 := Lib.hid (HGr.out.below hb5)
        have HB5 := Lib.hid (HBw.out.trans (hb5.mono HBw.out.size))
        clear hb5
        go_wp2_with fail
        refine (sizeR_any _ _ _ _ (by omega) HF5.out (by omega)).mono ?_
        rintro e w6 ⟨rfl, hb6⟩
        have HF6 := Lib.hid (HF5.out.below hb6)
        have HG6 := Lib.hid (HG5.out.below hb6)
        have HB6 := Lib.hid (HB5.out.trans (hb6.mono HB5.out.size))
        clear hb6
        go_wp2_with fail
        refine (find_any _ _ _ _ _ (by omega) HF6.out).mono ?_
        rintro e w7 ⟨f1, c1, rfl, hs1, hb7⟩
        have HF7 := Lib.hid (HF6.out.below hb7)
        have HG7 := Lib.hid (HG6.out.below hb7)
        have HB7 := Lib.hid (HB6.out.trans (hb7.mono HB6.out.size))
        have HS1 := Lib.hid hs1
        clear hb7 hs1
        go_wp2_with fail
        refine (findR_any _ _ _ _ _ (by omega) HF7.out).mono ?_
        rintro e w8 ⟨f2, c2, rfl, hs2, hb8⟩
        have HF8 := Lib.hid (HF7.out.below hb8)
        have HG8 := Lib.hid (HG7.out.below hb8)
        have HB8 := Lib.hid (HB7.out.trans (hb8.mono HB7.out.size))
        have HS1b := Lib.hid (HS1.out.below hb8)
        have HS2 := Lib.hid hs2
        clear hb8 hs2
        have hfl := findF_take_len xs name xs.length
        rw [List.take_length] at hfl
        go_wp2_with fail
        refine (strings_any _ _ _ _ _ _ _ (by omega) (by omega) HS1b.out HS2.out).mono ?_
        rintro e w9 ⟨rfl, hb9⟩
        have HF9 := Lib.hid (HF8.out.below hb9)
        have HG9 := Lib.hid (HG8.out.below hb9)
        have HB9 := Lib.hid (HB8.out.trans (hb9.mono HB8.out.size))
        clear hb9
        go_wp2_with fail
        refine (same_any _ _ _ _ _ _ _ (by omega) (by omega) HF9.out HG9.out).mono ?_
        rintro e w10 ⟨rfl, hb10⟩
        have HF10 := Lib.hid (HF9.out.below hb10)
        have HG10 := Lib.hid (HG9.out.below hb10)
        have HB10 := Lib.hid (HB9.out.trans (hb10.mono HB9.out.size))
        clear hb10
        go_wp2_with fail
        refine (fields_any _ _ _ _ _ _ _ (by omega) (by omega) HF10.out HG10.out).mono ?_
        rintro e w11 ⟨rfl, hb11⟩
        have HF11 := Lib.hid (HF10.out.below hb11)
        have HB11 := Lib.hid (HB10.out.trans (hb11.mono HB10.out.size))
        clear hb11
        go_wp2_with fail
        refine (same_any _ _ _ _ _ _ _ (by omega) (by omega) HF11.out HF11.out).mono ?_
        rintro e w12 ⟨rfl, hb12⟩
        have HB12 := Lib.hid (HB11.out.trans (hb12.mono HB11.out.size))
        clear hb12
        go_wp2_with fail
        go_ret
        exact ⟨by simp, HB12.out⟩

theorem finds_same (a1 a2 : Option Addr) (cap1 cap2 : Nat) (xs ys : List Fld) (name : ByteArray) (w : World) (hf : IsF w a1 xs) (hg : IsF w a2 ys) (ad : Addr) (ha1 : a1 = some ad)
    (hm1 : ∀ x ∈ xs, x.1.size ≤ 140737488355328 ∧ x.2.size ≤ 140737488355328) (hm2 : ∀ x ∈ ys, x.1.size ≤ 140737488355328 ∧ x.2.size ≤ 140737488355328) (hx : lightF xs = true) (hy : lightF ys = true) :
    Calls Try.prog 5 #[.slice a1 xs.length cap1, .slice a2 ys.length cap2, .string name, .bool true] w fun e w' => e = .returned (.bool true) ∧ Below w.heap.size w w' := by
    have HF := Lib.hid hf
    have HG := Lib.hid hg
    have HM1 := Lib.hid hm1
    have HM2 := Lib.hid hm2
    clear hf hg hm1 hm2
    subst ha1
    go_enter Try.func5, Try.ntmps5
    go_wp2_with fail
    refine (known_any _).mono ?_
    rintro e w1 ⟨rfl, hb⟩
    have HF1 := Lib.hid (HF.out.below hb)
    have HG1 := Lib.hid (HG.out.below hb)
    go_wp2_with fail
    refine (light_any _ _ _ _ HF1.out HM1.out).mono ?_
    rintro e w2 ⟨rfl, hb2⟩
    have HF2 := Lib.hid (HF1.out.below hb2)
    have HG2 := Lib.hid (HG1.out.below hb2)
    go_wp2_with fail
    refine (light_any _ _ _ _ HG2.out HM2.out).mono ?_
    rintro e w3 ⟨rfl, hb3⟩
    have hfa := HF2.out.below hb3
    have hga := HG2.out.below hb3
    have hb23 := hb2.trans (hb3.mono hb2.size)
    have hba := hb.trans (hb23.mono hb.size)
    have HL1 := Lib.hid hx
    have HL2 := Lib.hid hy
    clear hb hb2 hb3 hb23
    have hxl' := (light_len xs hx).1
    have hnews : ∀ j u, (cellsF xs)[j]? = some u → w3.cell? (ad.add j) = some u := by
      rcases hfa with rfl | ⟨b, off, h, _, hc⟩
      · intro j u hu; simp [cellsF] at hu
      · obtain rfl : ad = ⟨b, off, none⟩ := Option.some.inj h
        exact cellsF_mem w3 b off xs hc
    have HN := Lib.hid hnews
    have hfa' := Lib.hid hfa
    have hba' := Lib.hid hba
    obtain ⟨i0, hi, hz0, hz1, hz2⟩ := info_parts info32
    clear hga hfa hba hnews
    go_wp2_with (at_builtin; refine wpList_append_own _ rfl (.const (.slice none 0 0)) (.tmp 22) 28 rfl w3.heap.size 32 i0 (.agg #[.string ByteArray.empty, .string ByteArray.empty]) 2 32 Try.underlying28 hi hz0 hz1 hz2 rfl (by decide) (.slice none 0 0) 0 [] rfl (World.ownsRow_nil _ _ _ _) ad xs.length cap1 (cellsF xs) rfl (cellsF_len xs) HN.out (cellsF_one xs) (by unfold maxLen; omega) (by omega) (Nat.le_refl _) ?_; intro v1 w4 hown1 hgrow1 hnil1; simp only [Nat.zero_add, List.nil_append] at hown1; obtain ⟨a3, cap3, hv, hga⟩ := IsF_own hown1; subst hv; have hb4 : Below w3.heap.size w3 w4 := (Below.refl _ _).grown hgrow1 (Nat.le_refl _) (fun k hk => by simp [Value.ownBlock] at hk); have hfa := hfa'.out.below hb4; have hba := hba'.out.trans (hb4.mono hba'.out.size); clear hown1 hgrow1 hnil1 hb4)

    have HFa := Lib.hid hfa
    have HGa := Lib.hid hga
    have HBa := Lib.hid hba
    clear hfa hga hba
    go_wp2_with fail
    go_loopw [9, 10] (fun n i wr => ∃ k : Nat, k ≤ xs.length ∧ i = .int .i64 k ∧ n = .int .i64 (sizeF (xs.take k)) ∧ Below w4.heap.size w4 wr) (fun _ i _ => xs.length - (intOf i).toNat)
    case atStart => exact ⟨0, Nat.zero_le _, rfl, rfl, Below.refl _ _⟩
    case round =>
      obtain ⟨k, hk, rfl, rfl, hbel⟩ := hrel
      have HBr := Lib.hid hbel
      clear hbel
      have hn0 := sizeF_nonneg (xs.take k)
      have hxl := (light_len xs HL1.out).1
      by_cases hlt : k < xs.length
      · have hsu := sizeF_take xs k hlt
        have hsl := sizeF_take_le xs (k + 1)
        have hml := light_mem xs HL1.out k hlt
        obtain ⟨n, hn⟩ : ∃ n, sizeF (xs.take k) = n := ⟨_, rfl⟩
        rw [hn] at hsu hn0
        obtain ⟨b, off, had, hbl, hc⟩ : ∃ b off, (some ad) = some ⟨b, off, none⟩ ∧ b < wr.heap.size ∧ ∀ i, i < xs.length → wr.cell? ⟨b, off + i * 2, none⟩ = some (.string (xs.getD i default).1) ∧ wr.cell? ⟨b, off + i * 2 + 1, none⟩ = some (.string (xs.getD i default).2) := by
          rcases HFa.out.below HBr.out with rfl | h
          · simp at hlt
          · exact h
        obtain rfl : ad = ⟨b, off, none⟩ := Option.some.inj had
        obtain ⟨hc1, hc2⟩ := hc k hlt
        obtain ⟨x, hx⟩ : ∃ x, xs.getD k default = x := ⟨_, rfl⟩
        rw [hx] at hc1 hc2 hsu hml
        have hcall := size_any (some ⟨wr.heap.size, 0, none⟩) 1 [x] (wr.alloc (.cells #[.string x.1, .string x.2] 32)) (by simp) (isF_one wr x.1 x.2) (by have := hml.2; omega)
        obtain ⟨z, hz⟩ : ∃ z, sizeF [x] = z := ⟨_, rfl⟩
        rw [hz] at hcall hml
        have hz' : (x.1.size : Int) + x.2.size + 32 = z := by rw [← sizeF_one]; exact hz
        rw [hz'] at hsu
        have H1 := Lib.hid hsu
        have hbd : n + z ≤ 5240 := by have := (light_len xs HL1.out).2; omega
        obtain ⟨hz0, hz1⟩ := hml
        rw [hn]
        have HC := Lib.hid hcall
        clear hsu hn hx hsl hc hcall hz hz'
        go_wp2_with fail
        refine HC.out.mono ?_
        rintro e w5 ⟨rfl, hb5⟩
        have HB5 := Lib.hid (HBr.out.trans (((Below.refl _ _).alloc (Nat.le_refl _) (.cells #[.string x.1, .string x.2] 32)).trans (hb5.mono (by simp)) |>.mono HBr.out.size))
        clear hb5
        go_wp2_with fail
        go_roundw
        case rel => exact ⟨k + 1, by omega, by go_num, by rw [H1.out], HB5.out⟩
        case measure => simp [intOf]; omega
      · obtain rfl : xs.length = k := by omega
        rw [List.take_length]
        have HFr := Lib.hid (HFa.out.below HBr.out)
        have HGr := Lib.hid (HGa.out.below HBr.out)
        have hxz := (light_len xs HL1.out).2
        have HBw := Lib.hid (HBa.out.trans (HBr.out.mono HBa.out.size))
        go_wp2_with fail
        refine (size_any _ _ _ _ (by omega) HFr.out (by omega)).mono ?_
        rintro e w5 ⟨rfl, hb5⟩
        have HF5 := Lib.hid (HFr.out.below hb5)
        have HG5 := Lib.hid (HGr.out.below hb5)
        have HB5 := Lib.hid (HBw.out.trans (hb5.mono HBw.out.size))
        clear hb5
        go_wp2_with fail
        refine (sizeR_any _ _ _ _ (by omega) HF5.out (by omega)).mono ?_
        rintro e w6 ⟨rfl, hb6⟩
        have HF6 := Lib.hid (HF5.out.below hb6)
        have HG6 := Lib.hid (HG5.out.below hb6)
        have HB6 := Lib.hid (HB5.out.trans (hb6.mono HB5.out.size))
        clear hb6
        go_wp2_with fail
        refine (find_any _ _ _ _ _ (by omega) HF6.out).mono ?_
        rintro e w7 ⟨f1, c1, rfl, hs1, hb7⟩
        have HF7 := Lib.hid (HF6.out.below hb7)
        have HG7 := Lib.hid (HG6.out.below hb7)
        have HB7 := Lib.hid (HB6.out.trans (hb7.mono HB6.out.size))
        have HS1 := Lib.hid hs1
        clear hb7 hs1
        go_wp2_with fail
        refine (findR_any _ _ _ _ _ (by omega) HF7.out).mono ?_
        rintro e w8 ⟨f2, c2, rfl, hs2, hb8⟩
        have HF8 := Lib.hid (HF7.out.below hb8)
        have HG8 := Lib.hid (HG7.out.below hb8)
        have HB8 := Lib.hid (HB7.out.trans (hb8.mono HB7.out.size))
        have HS1b := Lib.hid (HS1.out.below hb8)
        have HS2 := Lib.hid hs2
        clear hb8 hs2
        have hfl := findF_take_len xs name xs.length
        rw [List.take_length] at hfl
        go_wp2_with fail
        refine (strings_any _ _ _ _ _ _ _ (by omega) (by omega) HS1b.out HS2.out).mono ?_
        rintro e w9 ⟨rfl, hb9⟩
        have HF9 := Lib.hid (HF8.out.below hb9)
        have HG9 := Lib.hid (HG8.out.below hb9)
        have HB9 := Lib.hid (HB8.out.trans (hb9.mono HB8.out.size))
        clear hb9
        go_wp2_with fail
        refine (same_any _ _ _ _ _ _ _ (by omega) (by omega) HF9.out HG9.out).mono ?_
        rintro e w10 ⟨rfl, hb10⟩
        have HF10 := Lib.hid (HF9.out.below hb10)
        have HG10 := Lib.hid (HG9.out.below hb10)
        have HB10 := Lib.hid (HB9.out.trans (hb10.mono HB9.out.size))
        clear hb10
        go_wp2_with fail
        refine (fields_any _ _ _ _ _ _ _ (by omega) (by omega) HF10.out HG10.out).mono ?_
        rintro e w11 ⟨rfl, hb11⟩
        have HF11 := Lib.hid (HF10.out.below hb11)
        have HB11 := Lib.hid (HB10.out.trans (hb11.mono HB10.out.size))
        clear hb11
        go_wp2_with fail
        refine (same_any _ _ _ _ _ _ _ (by omega) (by omega) HF11.out HF11.out).mono ?_
        rintro e w12 ⟨rfl, hb12⟩
        have HB12 := Lib.hid (HB11.out.trans (hb12.mono HB11.out.size))
        clear hb12
        go_wp2_with fail
        go_ret
        exact ⟨by simp, HB12.out⟩

end Go.Proofs.Ytnakdlneennofaa
