/- The walk of the statement on capacities that fall. Conditions: the slices can be read. -/
import Derived.Test.YtfkmcbkhodppmaaX
namespace Go.Proofs.Ytfkmcbkhodppmaa
open Go.RowKit Go.Maps Go.ChangeShapes Go.WideShapes
set_option linter.unusedVariables false

theorem cells22 : Try.prog.cellsOf 22 = 1 := by kernel_rfl
/-- Numbers of sixteen bits, opened. -/
theorem open_u16s {H : Type} {enc : TypeId × Value → H} {W : World} {base : Nat} {v : Value} {d : DataW H} {p : List MemPlace} (hok : Value.okWide Try.prog W .any base 49 v)
    (h : DataW.Trod enc Try.prog W 0 (fun _ => true) true 49 v d p) (_ : ∀ n ∈ d.weights Try.prog 49, n ≤ reachBytes) :
    ∃ (a : Option Addr) (zs : List Int) (cap : Nat), v = .slice a zs.length cap ∧ Rd W 1 v zs.length (zs.map (Value.int .u16)) ∧ ∀ z ∈ zs, 0 ≤ z ∧ z ≤ 65535 := by
  obtain ⟨a0, len0, cap0, rfl⟩ := okWide_slice Try.underlying49 hok
  obtain ⟨fuel, hf⟩ := h
  rcases open_ints Try.underlying49 Try.underlying22 cells22 hf with ⟨hcs, _⟩ | ⟨a, len, cap, zs, hcs, _, hl, hm, hlen, _, hc, hw⟩
  · simp [Value.cells] at hcs
    obtain ⟨rfl, rfl, rfl⟩ := hcs
    exact ⟨none, [], 0, rfl, ⟨rfl, .inl ⟨none, 0, rfl, rfl⟩⟩, by simp⟩
  · simp [Value.cells] at hcs
    obtain ⟨rfl, rfl, rfl⟩ := hcs
    have hle : len0 ≤ zs.length := by rw [hlen]; split <;> omega
    have hb : ∀ n ∈ zs, 0 ≤ n ∧ n ≤ 65535 := fun n hn => bounds_u16 (hw n hn)
    have hl2 : (zs.take len0).length = len0 := by simp; omega
    refine ⟨some a, zs.take len0, cap0, by rw [hl2], ?_, fun z hz => hb z (List.mem_of_mem_take hz)⟩
    rw [hl2]
    refine ⟨by simp; omega, ?_⟩
    obtain ⟨b, off, spot⟩ := a
    by_cases h0 : len0 = 0
    · subst h0
      exact .inl ⟨_, _, rfl, rfl⟩
    · have hc0 := hc 0 (by omega)
      have hspot : spot = none := by simpa [Addr.add] using World.cell?_spot hc0
      subst hspot
      refine .inr ⟨b, off, cap0, rfl, hl, fun _ => ?_, fun j hj => ?_⟩
      · have := World.block_lt_of_cell? W _ hc0
        simpa [Addr.add] using this
      · have := hc j (by omega)
        rw [Addr.add_lit] at this
        rw [this]
        have hjl : j < zs.length := by omega
        simp [hjl, show j < len0 from by omega]

/-- One entry more of a list whose end the table holds. -/
theorem suf_add (l : List Fld) (k j cap : Nat) (x : Fld) (hx : l[k]? = some x) (hj : j ≤ k) (hle : sz x ≤ cap) :
    ∃ j', j' ≤ k + 1 ∧ add1 cap ⟨(l.take k).drop j, k⟩ x = ⟨(l.take (k + 1)).drop j', k + 1⟩ := by
  have hk : k < l.length := (List.getElem?_eq_some_iff.1 hx).1
  rw [add1_yes _ _ _ hle]
  have hm := fitN_le ((l.take k).drop j) ((cap : Int) - (sz x : Int))
  have hl : ((l.take k).drop j).length = k - j := by simp; omega
  refine ⟨j + fitN ((l.take k).drop j) ((cap : Int) - (sz x : Int)), by omega, ?_⟩
  have ht : l.take (k + 1) = l.take k ++ [x] := by rw [List.take_add_one, hx]; rfl
  rw [ht, List.drop_append_of_le_length (by simp; omega)]
  simp only [fitL, List.drop_drop]
theorem suf_set (l : List Fld) (j c : Nat) (hj : j ≤ l.length) : ∃ j', j' ≤ l.length ∧ setC ⟨l.drop j, l.length⟩ c = ⟨l.drop j', l.length⟩ ∧ (l.drop j).length = (l.drop j').length + fitN (l.drop j) c := by
  have hm := fitN_le (l.drop j) (c : Int)
  have hl : (l.drop j).length = l.length - j := by simp
  refine ⟨j + fitN (l.drop j) c, by omega, ?_, ?_⟩
  · simp only [setC, fitL, List.drop_drop]
  · simp
    omega
theorem suf_new (l : List Fld) (j i : Nat) (hj : j ≤ l.length) (hi : i < (l.drop j).length) : (l.drop j)[(((l.drop j).length : Int) - 1 - (i : Int)).toNat]? = l[l.length - 1 - i]? := by
  have hl : (l.drop j).length = l.length - j := by simp
  rw [List.getElem?_drop]
  congr 1
  omega
theorem At5.newest {w wr : World} {t cap : Nat} {s : TS} (h : At5 w wr t s cap) (hc : s.cnt ≤ 1099511627776) (i : Int) (hi : 0 ≤ i ∧ i < s.L.length) (x : Fld) (hx : s.L[((s.L.length : Int) - 1 - i).toNat]? = some x) :
    Calls Try.prog 22 #[.pointer (some ⟨t, 0, none⟩), .int .u64 i] wr fun e w' => e = .returned (fopt (some x)) ∧ Touch [] wr w' := let ⟨_, h1, _⟩ := h; newest_yes h1 hc i hi x hx
theorem up_nat (c : Nat) : up (c : Int) = c := by simp [up]

set_option maxRecDepth 100000 in
theorem shrinks_many (a b : Option Addr) (c1 c2 : Nat) (l : List Fld) (zs : List Int) (w : World) (h : 20 < l.length ∨ (l.length ≤ 20 ∧ 10 < zs.length)) :
    Calls Try.prog 7 #[.slice a l.length c1, .slice b zs.length c2] w fun e w' => e = .returned (.bool true) ∧ Below w.heap.size w w' := by
  rcases h with h | ⟨h, h2⟩
  · have hb : decide (20 < (l.length : Int)) = true := by simp; omega
    go_enter Try.func7, Try.ntmps7
    go_wp2_with fail
    refine (known_any _).mono ?_
    rintro e w1 ⟨rfl, hb⟩
    go_wp2_with fail
    go_ret
    exact ⟨rfl, hb.below (Nat.le_refl _) (by simp)⟩
  · have hb : decide (20 < (l.length : Int)) = false := by simp; omega
    have hb2 : decide (10 < (zs.length : Int)) = true := by simp; omega
    go_enter Try.func7, Try.ntmps7
    go_wp2_with fail
    refine (known_any _).mono ?_
    rintro e w1 ⟨rfl, hb⟩
    go_wp2_with fail
    go_ret
    exact ⟨rfl, hb.below (Nat.le_refl _) (by simp)⟩

set_option maxRecDepth 100000 in
set_option maxHeartbeats 8000000 in
theorem shrinks_walk (a b : Option Addr) (c1 c2 : Nat) (l : List Fld) (zs : List Int) (w : World) (hx : Rd w 2 (.slice a l.length c1) l.length (cf l)) (hz : Rd w 1 (.slice b zs.length c2) zs.length (zs.map (Value.int .u16)))
    (hzb : ∀ z ∈ zs, 0 ≤ z ∧ z ≤ 65535) (hm : ∀ x ∈ l, x.1.size ≤ 140737488355328 ∧ x.2.size ≤ 140737488355328) (hl : l.length ≤ 20) (hzl : zs.length ≤ 10) :
    Calls Try.prog 7 #[.slice a l.length c1, .slice b zs.length c2] w fun e w' => e = .returned (.bool true) ∧ Below w.heap.size w w' := by
  have hb1 : decide (20 < (l.length : Int)) = false := by simp; omega
  have hb2 : decide (10 < (zs.length : Int)) = false := by simp; omega
  have HX := Lib.hid hx
  have HZ := Lib.hid hz
  have HZB := Lib.hid hzb
  have HM := Lib.hid hm
  clear hx hz hzb hm
  go_enter Try.func7, Try.ntmps7
  go_wp2_with fail
  refine (known_any _).mono ?_
  rintro e w1 ⟨rfl, hb⟩
  have T1 := Lib.hid hb
  clear hb
  go_wp2_with fail
  refine (new_at 2000 2000 (by decide) w w1 T1.out).mono ?_
  rintro e w2 ⟨t, rfl, hA⟩
  have A2 := Lib.hid hA
  clear hA
  go_wp2_with fail
  go_loopw [6] (fun i wr => ∃ (k j : Nat), k ≤ l.length ∧ j ≤ k ∧ i = .int .i64 (k : Int) ∧ At5 w wr t ⟨(l.take k).drop j, k⟩ 2000) (fun i _ => l.length - (intOf i).toNat)
  case atStart => exact ⟨0, 0, by omega, by omega, rfl, by simpa using A2.out⟩
  case round =>
    obtain ⟨k, j, hk, hj, rfl, hA⟩ := hrel
    have HA := Lib.hid hA
    clear hA
    by_cases hlt : k < l.length
    · obtain ⟨x, hxk⟩ : ∃ x, l[k]? = some x := ⟨_, List.getElem?_eq_getElem hlt⟩
      obtain ⟨g, o, rfl⟩ := HX.out.some (by omega)
      obtain ⟨d0, d1, hg⟩ := (HX.out.touch HA.out.touch (by simp)).two rfl k x hxk
      have hxm := HM.out x (List.mem_of_getElem? hxk)
      have HGW := Lib.hid (show g < w.heap.size by
        rcases HX.out.cases with ⟨_, _, _, h0, _⟩ | ⟨g', o', c', he, _, h2, _⟩
        · omega
        · simp at he
          have := h2 (by omega)
          rw [he.1.1]; exact this)
      obtain ⟨x1, x2⟩ := x
      simp only at d0 d1 hxm
      have hk0 : (0 : Int) ≤ (k : Int) := by omega
      have hk1 : (k : Int) < (l.length : Int) := by omega
      by_cases hbig : x1.size + x2.size ≤ 100
      · have hbb : decide (100 < x1.size + x2.size) = false := by simpa using hbig
        obtain ⟨j', hj', hadd⟩ := suf_add l k j 2000 (x1, x2) hxk hj (by simp only [sz]; omega)
        have HAD := Lib.hid hadd
        clear hadd hxk
        go_wp2_with fail
        go_quiet (fail)
        have HA := Lib.hid (HA.out.keep ((Touch.refl [] _).drewN nq))
        have d0 : (wr.drewN nq).cell? ⟨g, o + k * 2, none⟩ = some (.string x1) := d0
        have d1 : (wr.drewN nq).cell? ⟨g, o + k * 2 + 1, none⟩ = some (.string x2) := d1
        have hg : g < (wr.drewN nq).heap.size := hg
        generalize wr.drewN nq = wq at *
        go_wp2_with fail
        refine (HA.out.add ((Touch.refl [] _).alloc _) _ [(x1, x2)] (rd_new wq [(x1, x2)] rfl rfl) (by intro g hg; have := (mem_own hg).1; simp at this; omega) (by omega) (by simp; omega) (by intro y hy; simp only [List.mem_cons, List.not_mem_nil, or_false] at hy; subst hy; simp only [sz]; omega)).mono ?_
        rw [show addA 2000 ⟨(l.take k).drop j, k⟩ [(x1, x2)] = _ from HAD.out]
        rintro e w3 ⟨rfl, hA⟩
        have HA3 := Lib.hid hA
        clear hA d0 d1 hg
        go_wp2_with fail
        go_roundw
        case rel => exact ⟨k + 1, j', by omega, hj', by go_num, HA3.out⟩
        case measure => simp [intOf]; omega
      · have hbb : decide (100 < x1.size + x2.size) = true := by simp; omega
        go_wp2_with fail
        go_quiet (fail)
        go_wp2_with fail
        go_ret
        exact ⟨rfl, (HA.out.keep ((Touch.refl [] _).drewN nq)).below⟩
    · obtain rfl : k = l.length := by omega
      have HA := Lib.hid (show At5 w wr t ⟨l.drop j, l.length⟩ 2000 by simpa using HA.out)
      go_wp2_with fail
      obtain ⟨wo, rfl⟩ : ∃ wo : World, wo = wr := ⟨_, rfl⟩
      go_loopw [7] (fun i wr => ∃ (n j cap : Nat), n ≤ zs.length ∧ j ≤ l.length ∧ cap ≤ 2000 ∧ i = .int .i64 (n : Int) ∧ At5 w wr t ⟨l.drop j, l.length⟩ cap) (fun i _ => zs.length - (intOf i).toNat)
      case atStart => exact ⟨0, j, 2000, by omega, by omega, by omega, rfl, HA.out⟩
      case round =>
        obtain ⟨n, j, cap, hn, hj, hcap, rfl, hA⟩ := hrel
        have HA := Lib.hid hA
        clear hA
        by_cases hlt : n < zs.length
        · obtain ⟨z, hzn⟩ : ∃ z, zs[n]? = some z := ⟨_, List.getElem?_eq_getElem hlt⟩
          have hzr := HZB.out z (List.mem_of_getElem? hzn)
          obtain ⟨g, o, rfl⟩ := HZ.out.some (by omega)
          have hT := HA.out.touch
          have hgw : g < w.heap.size ∧ w.cell? ⟨g, o + n, none⟩ = some (.int .u16 z) := by
            rcases HZ.out.cases with ⟨_, _, _, h0, _⟩ | ⟨g', o', c', he, _, h2, h3⟩
            · omega
            · simp at he
              obtain ⟨⟨rfl, rfl⟩, rfl⟩ := he
              refine ⟨h2 (by omega), ?_⟩
              rw [h3 n (by omega)]
              simp [hzn]
          have HGW := Lib.hid hgw
          have d0 := hT.cell hgw.2 (by simp)
          have hg : g < wr.heap.size := Nat.lt_of_lt_of_le hgw.1 hT.size
          have hmod : Int.tmod z 2000 = z % 2000 := Int.tmod_eq_emod_of_nonneg hzr.1
          obtain ⟨c, hc⟩ : ∃ c : Nat, z % 2000 = (c : Int) := ⟨(z % 2000).toNat, by omega⟩
          have hc2 : c < 2000 := by omega
          have hmc : Int.tmod z 2000 = (c : Int) := hmod.trans hc
          obtain ⟨j', hj', hset, hlen⟩ := suf_set l j c hj
          have HSET := Lib.hid hset
          have hhad : (((l.drop j).length : Nat) : Int) - (fitN (l.drop j) c : Int) = (((l.drop j').length : Nat) : Int) := by omega
          obtain ⟨had, hh⟩ : ∃ had, (l.drop j).length = had := ⟨_, rfl⟩
          obtain ⟨gone, hgn⟩ : ∃ gone, fitN (l.drop j) c = gone := ⟨_, rfl⟩
          obtain ⟨len, hle⟩ : ∃ len, (l.drop j').length = len := ⟨_, rfl⟩
          rw [hh, hgn, hle] at hhad
          have hlb : len ≤ 20 := by have : (l.drop j').length ≤ l.length := by simp
                                    omega
          have hhb : had ≤ 20 := by have : (l.drop j).length ≤ l.length := by simp
                                    omega
          have HH := Lib.hid hh
          have HGN := Lib.hid hgn
          have HLE := Lib.hid hle
          have hn0 : (0 : Int) ≤ (n : Int) := by omega
          have hn1 : (n : Int) < (zs.length : Int) := by omega
          clear hh hgn hle hmod hc hset hlen hgw hT hzn
          go_wp2_with fail
          refine HA.out.len.mono ?_
          rw [show (TS.mk (l.drop j) l.length).L.length = had from HH.out]
          rintro e w3 ⟨rfl, rfl⟩
          go_wp2_with fail
          refine (HA.out.resize (c : Int) (by omega) (by omega) (by simp only; omega)).mono ?_
          rw [up_nat, show fitN (TS.mk (l.drop j) l.length).L c = gone from HGN.out, HSET.out]
          rintro e w3 ⟨rfl, hA⟩
          have HA3 := Lib.hid hA
          have hT := hA.touch
          have d0 := hT.cell HGW.out.2 (by simp)
          have hg : g < w3.heap.size := Nat.lt_of_lt_of_le HGW.out.1 hT.size
          have hsz : decide (c < szL (l.drop j')) = false := by
            obtain ⟨_, _, _, _, h4⟩ := hA
            have := h4.2
            simp only at this
            simp; omega
          obtain ⟨sz', hsz'⟩ : ∃ sz', szL (l.drop j') = sz' := ⟨_, rfl⟩
          rw [hsz'] at hsz
          have HSZ := Lib.hid hsz'
          have Q14 := Lib.hid (show ∀ n, Calls Try.prog 14 #[.pointer (some ⟨t, 0, none⟩)] (w3.drewN n) fun e w'' => e = .returned (.int .i64 len) ∧ w'' = w3.drewN n from fun n => by
            rw [← HLE.out]
            exact (HA3.out.keep ((Touch.refl [] _).drewN n)).len.mono fun _ _ h => ⟨h.1, h.2.symm⟩)
          have Q15 := Lib.hid (show ∀ n, Calls Try.prog 15 #[.pointer (some ⟨t, 0, none⟩)] (w3.drewN n) fun e w'' => e = .returned (.int .i64 sz') ∧ w'' = w3.drewN n from fun n => by
            rw [← HSZ.out]
            exact (HA3.out.keep ((Touch.refl [] _).drewN n)).size.mono fun _ _ h => ⟨h.1, h.2.symm⟩)
          clear hsz'
          have hneq : ((len : Int) != (had : Int) - (gone : Int)) = false := by rw [hhad]; simp
          clear hA hT
          go_wp2_with fail
          go_quiet ((first | (go_at_call 14; exact Calls.quiet_of_same (Q14.out _)) | (go_at_call 15; exact Calls.quiet_of_same (Q15.out _)) | (go_at_call 18; exact Calls.quiet_of_same ((HA3.out.keep ((Touch.refl [] _).drewN _)).capOf.mono fun _ _ h => ⟨h.1, h.2.symm⟩)) | (go_at_call 16; exact Calls.quiet_of_same ((HA3.out.keep ((Touch.refl [] _).drewN _)).count.mono fun _ _ h => ⟨h.1, h.2.symm⟩))))
          have HA3 := Lib.hid (HA3.out.keep ((Touch.refl [] _).drewN nq))
          have HCC := Lib.hid (show l.length ≤ 20 ∧ c < 2000 ∧ j' ≤ l.length ∧ n + 1 ≤ zs.length from ⟨hl, hc2, hj', hlt⟩)
          clear Q14 Q15 HSZ hneq hsz hhad hmc d0 hg
          generalize w3.drewN nq = wq at *
          go_wp2_with fail
          obtain ⟨wp, rfl⟩ : ∃ wp : World, wp = wq := ⟨_, rfl⟩
          go_loopw [10] (fun i wr => ∃ m : Nat, m ≤ len ∧ i = .int .i64 (m : Int) ∧ At5 w wr t ⟨l.drop j', l.length⟩ c) (fun i _ => len - (intOf i).toNat)
          case atStart => exact ⟨0, by omega, rfl, HA3.out⟩
          case round =>
            obtain ⟨m, hm, rfl, hA⟩ := hrel
            have HA := Lib.hid hA
            clear hA
            have Q14 := Lib.hid (show Calls Try.prog 14 #[.pointer (some ⟨t, 0, none⟩)] wr fun e w'' => e = .returned (.int .i64 len) ∧ wr = w'' from by
              rw [← HLE.out]
              exact HA.out.len)
            by_cases hml : m < len
            · have hq : m < l.length := by have h1 := HLE.out; have : (l.drop j').length ≤ l.length := by simp
                                           omega
              obtain ⟨q, hqe⟩ : ∃ q, l.length - 1 - m = q := ⟨_, rfl⟩
              have hq1 : (l.length : Int) - 1 - (m : Int) = (q : Int) := by omega
              have hq2 : q < l.length := by omega
              obtain ⟨x, hxq⟩ : ∃ x, l[q]? = some x := ⟨_, List.getElem?_eq_getElem hq2⟩
              obtain ⟨g2, o2, rfl⟩ := HX.out.some (by omega)
              obtain ⟨y0, y1, hg2⟩ := HX.out.two rfl q x hxq
              have hn := suf_new l j' m HCC.out.2.2.1 (by rw [HLE.out]; exact hml)
              rw [hqe, hxq] at hn
              have C22 := Lib.hid (HA.out.newest (by simp only; omega) (m : Int) (by simp only; rw [HLE.out]; omega) x hn)
              obtain ⟨x1, x2⟩ := x
              simp only at y0 y1
              have hez : ∀ w, (Op.equalIn 10000 26 (.agg #[.string x1, .string x2]) (.agg #[.string x1, .string x2])).run Try.prog w = .ok true w := fun w => by have := run_eqF (x1, x2) (x1, x2) w; simpa using this
              have HY := Lib.hid (And.intro y0 (And.intro y1 hg2))
              have hm0 : (0 : Int) ≤ (m : Int) := by omega
              have hq3 : (0 : Int) ≤ (q : Int) := by omega
              have hq4 : (q : Int) < (l.length : Int) := by omega
              clear hqe hxq hn y0 y1 hg2
              go_wp2_with fail
              refine Q14.out.mono ?_
              rintro e w4 ⟨rfl, rfl⟩
              go_wp2_with fail
              refine C22.out.mono ?_
              rw [show fopt (some (x1, x2)) = .tuple #[.agg #[.string x1, .string x2], .bool true] from rfl]
              rintro e w5 ⟨rfl, hT⟩
              have HA5 := Lib.hid (HA.out.keep hT)
              have y0 := HA5.out.touch.cell HY.out.1 (by simp)
              have y1 := HA5.out.touch.cell HY.out.2.1 (by simp)
              have hg2 : g2 < w5.heap.size := Nat.lt_of_lt_of_le HY.out.2.2 HA5.out.touch.size
              clear hT
              go_wp2_with fail
              go_quiet (fail)
              go_wp2_with fail
              go_roundw
              case rel => exact ⟨m + 1, by omega, by go_num, HA5.out.keep (by (repeat (first | exact Touch.refl _ _ | refine Touch.drewN ?_ _ | refine Touch.drew ?_ | refine Touch.alloc ?_ _)))⟩
              case measure => simp [intOf]; omega
            · obtain rfl : m = len := by omega
              go_wp2_with fail
              refine Q14.out.mono ?_
              rintro e w4 ⟨rfl, rfl⟩
              go_wp2_with fail
              go_roundw
              case rel => exact ⟨n + 1, j', c, HCC.out.2.2.2, HCC.out.2.2.1, by have := HCC.out.2.1; omega, by go_num, HA.out⟩
              case measure => simp [intOf]; omega
        · obtain rfl : n = zs.length := by omega
          go_wp2_with fail
          go_ret
          exact ⟨rfl, HA.out.below⟩
end Go.Proofs.Ytfkmcbkhodppmaa
