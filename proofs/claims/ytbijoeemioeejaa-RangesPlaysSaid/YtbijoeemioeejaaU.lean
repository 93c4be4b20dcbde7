/- The contracts of New, and of the comparing of two lists of ranges. Conditions: none beyond what is read. -/
import Derived.Test.YtbijoeemioeejaaN
namespace Go.Proofs.Ytbijoeemioeejaa
open Go.RowKit

/-- A new empty set. -/
theorem IsS.new (w : World) (t : TypeId) : IsS (w.alloc (.cells #[.slice none 0 0, .int .u64 0] t)) w.heap.size t [w.heap.size] [] 0 :=
  ⟨none, 0, IsBlk.new w _ t, Sl.nil _ _ _, by simp, by simp, V.nil 0, by unfold mx; omega⟩
theorem new_any (w : World) : Calls Try.prog 8 #[] w fun e w' => e = .returned (.pointer (some ⟨w.heap.size, 0, none⟩)) ∧ w' = w.alloc (.cells #[.slice none 0 0, .int .u64 0] 50) := by
  go_enter Try.func8, Try.ntmps8
  go_wp2_with fail
  go_ret
  exact ⟨rfl, rfl⟩

theorem fieldsR : ((Try.prog.fieldsOf 38).toList.map fun f => (f.name, f.type, f.offset)) = [("First", 28, 0), ("Last", 28, 1)] := by kernel_rfl
theorem run_eqR (x y : Rng) (w : World) : (Op.equalIn 10000 38 (.agg #[.int .u64 (x.1 : Int), .int .u64 (x.2 : Int)]) (.agg #[.int .u64 (y.1 : Int), .int .u64 (y.2 : Int)])).run Try.prog w = .ok (decide (x = y)) w := by
  rw [run_equalIn_struct w 9999 38 _ _ (by kernel_rfl) (by kernel_rfl)]
  have h := fieldsR
  generalize (Try.prog.fieldsOf 38).toList = l at h
  obtain ⟨f, g, rfl⟩ := two_of l (by simpa using congrArg List.length h)
  simp at h
  obtain ⟨⟨h1, h2, h3⟩, h4, h5, h6⟩ := h
  simp [Op.eqFields, h1, h2, h3, h4, h5, h6, go_sem]
  obtain ⟨x1, x2⟩ := x
  obtain ⟨y1, y2⟩ := y
  by_cases e1 : x1 = y1 <;> by_cases e2 : x2 = y2 <;> simp [e1, e2] <;> omega

set_option maxHeartbeats 1000000 in
theorem alike_any (w : World) (v1 v2 : Value) (xs ys : List Rng) (h1 : Rd w 2 v1 xs.length (cr xs)) (h2 : Rd w 2 v2 ys.length (cr ys)) (hl : xs.length ≤ 1099511627776) (hl2 : ys.length ≤ 1099511627776) :
    Calls Try.prog 19 #[v1, v2] w fun e w' => e = .returned (.bool (decide (xs = ys))) ∧ Touch [] w w' := by
  obtain ⟨a1, cap1, rfl⟩ := h1.form
  obtain ⟨a2, cap2, rfl⟩ := h2.form
  by_cases hlen : xs.length = ys.length
  · have hne : ((xs.length : Int) != (ys.length : Int)) = false := by rw [hlen]; simp
    have HL := Lib.hid hlen
    have H1 := Lib.hid h1
    have H2 := Lib.hid h2
    clear hlen h1 h2
    have HN : Hid (∀ (k : Nat) (x y : Rng), xs[k]? = some x → ys[k]? = some y → x ≠ y → decide (xs = ys) = false) := Lib.hid fun k x y hx hy hn => by
      rw [decide_eq_false_iff_not]
      rintro rfl
      rw [hx] at hy
      exact hn (Option.some.inj hy)
    have HT1 : Hid (xs.take xs.length = ys.take xs.length → decide (xs = ys) = true) := Lib.hid fun h => by
      rw [List.take_length, HL.out, List.take_length] at h
      simpa using h
    generalize decide (xs = ys) = r at *
    go_enter Try.func19, Try.ntmps19
    go_wp2_with fail
    go_loopw [5] (fun i wr => ∃ k : Nat, k ≤ xs.length ∧ i = .int .i64 (k : Int) ∧ Hid (xs.take k = ys.take k) ∧ Touch [] w wr) (fun i _ => xs.length - (intOf i).toNat)
    case atStart => exact ⟨0, Nat.zero_le _, rfl, Lib.hid rfl, Touch.refl _ _⟩
    case round =>
      obtain ⟨k, hk, rfl, HE, hT⟩ := hrel
      have HT := Lib.hid hT
      by_cases hlt : k < xs.length
      · obtain ⟨x, hx⟩ : ∃ x, xs[k]? = some x := ⟨_, List.getElem?_eq_getElem hlt⟩
        obtain ⟨y, hy⟩ : ∃ y, ys[k]? = some y := ⟨_, List.getElem?_eq_getElem (by have := HL.out; omega)⟩
        obtain ⟨g, o, rfl⟩ := H1.out.some (by omega)
        obtain ⟨g2, o2, rfl⟩ := H2.out.some (by have := HL.out; omega)
        obtain ⟨c1, c2, hg⟩ := (H1.out.touch hT (by simp)).two rfl k x hx
        obtain ⟨c3, c4, hg2⟩ := (H2.out.touch hT (by simp)).two rfl k y hy
        have HX := Lib.hid hx
        have HY := Lib.hid hy
        have hk2 : (k : Int) < (xs.length : Int) := by omega
        have hk3 : (k : Int) < (ys.length : Int) := by have := HL.out; omega
        have HEN : Hid (x ≠ y → r = false) := Lib.hid (HN.out k x y hx hy)
        have HEY : Hid (x = y → xs.take (k + 1) = ys.take (k + 1)) := Lib.hid fun e => by rw [List.take_add_one, List.take_add_one, hx, hy, HE.out, e]
        have he := run_eqR x y
        obtain ⟨x1, x2⟩ := x
        obtain ⟨y1, y2⟩ := y
        simp only at c1 c2 c3 c4 he
        clear hx hy hT
        by_cases hq : (x1, x2) = (y1, y2)
        · rw [show decide ((x1, x2) = (y1, y2)) = true from by simpa using hq] at he
          have HQ := Lib.hid hq
          clear hq
          go_wp2_with fail
          go_quiet (fail)
          go_wp2_with fail
          go_roundw
          case rel => exact ⟨k + 1, by omega, by go_num, Lib.hid (HEY.out HQ.out), HT.out.drewN _⟩
          case measure => simp [intOf]; omega
        · rw [show decide ((x1, x2) = (y1, y2)) = false from by simpa using hq] at he
          have HQ := Lib.hid hq
          clear hq
          go_wp2_with fail
          go_quiet (fail)
          go_wp2_with fail
          go_ret
          exact ⟨by rw [HEN.out HQ.out]; rfl, HT.out.drewN _⟩
      · obtain rfl : k = xs.length := by omega
        clear hT
        go_wp2_with fail
        go_ret
        exact ⟨by rw [HT1.out HE.out]; rfl, HT.out⟩
  · have hne : ((xs.length : Int) != (ys.length : Int)) = true := by rw [bne_iff_ne]; omega
    rw [show decide (xs = ys) = false from by rw [decide_eq_false_iff_not]; rintro rfl; exact hlen rfl]
    clear hlen h1 h2
    go_enter Try.func19, Try.ntmps19
    go_wp2_with fail
    go_ret
    exact ⟨rfl, Touch.refl _ _⟩
end Go.Proofs.Ytbijoeemioeejaa
