/- Lists of settings: how they lie, when two are alike. Conditions: the lists' cells are where the slices say. Printed by gen13.py. -/
import Derived.Test.YtokbekiihdabhaaA
namespace Go.Proofs.Ytokbekiihdabhaa
open Go.RowKit

abbrev St := Int × Int
def IsT (w : World) (a : Option Addr) (xs : List St) : Prop :=
  xs = [] ∨ ∃ b off, a = some ⟨b, off, none⟩ ∧ b < w.heap.size ∧
    ∀ i, i < xs.length → w.cell? ⟨b, off + i * 2, none⟩ = some (.int .u64 (xs.getD i default).1) ∧ w.cell? ⟨b, off + i * 2 + 1, none⟩ = some (.int .u64 (xs.getD i default).2)
theorem IsT.below {w w' : World} {a : Option Addr} {xs : List St} (h : IsT w a xs) (hb : Below w.heap.size w w') : IsT w' a xs := by
  rcases h with rfl | ⟨b, off, rfl, hl, hc⟩
  · exact .inl rfl
  · refine .inr ⟨b, off, rfl, by have := hb.size; omega, fun i hi => ?_⟩
    rw [(bcell hb).1 _ _ hl, (bcell hb).1 _ _ hl]
    exact hc i hi
def cellsT (xs : List St) : List Value := xs.flatMap fun x => [.int .u64 x.1, .int .u64 x.2]
theorem cellsT_append (xs ys : List St) : cellsT (xs ++ ys) = cellsT xs ++ cellsT ys := by simp [cellsT]
theorem cellsT_at (xs : List St) : ∀ i, i < xs.length → (cellsT xs)[i * 2]? = some (.int .u64 (xs.getD i default).1) ∧ (cellsT xs)[i * 2 + 1]? = some (.int .u64 (xs.getD i default).2) := by
  induction xs with
  | nil => intro i hi; simp at hi
  | cons x l ih =>
    intro i hi
    have e : cellsT (x :: l) = .int .u64 x.1 :: .int .u64 x.2 :: cellsT l := rfl
    rw [e]
    match i with
    | 0 => exact ⟨rfl, rfl⟩
    | i + 1 =>
      have := ih i (by simp at hi; omega)
      rw [show (i + 1) * 2 = i * 2 + 1 + 1 from by omega]
      simpa using this
theorem IsT_own {w : World} {B : Nat} {v : Value} {xs : List St} (h : w.ownsRow B 32 2 v xs.length (cellsT xs)) :
    ∃ a cap, v = .slice a xs.length cap ∧ IsT w a xs := by
  rcases h.2 with ⟨rfl, h0⟩ | ⟨g, cap, cur, rfl, hb, hg, _⟩
  · exact ⟨none, 0, by rw [h0], .inl (List.length_eq_zero_iff.1 h0)⟩
  · refine ⟨_, _, rfl, .inr ⟨g, 0, rfl, (Array.getElem?_eq_some_iff.1 hg).1, fun i hi => ?_⟩⟩
    have h1 := h.cellAt (i * 2) (by omega)
    have h2 := h.cellAt (i * 2 + 1) (by omega)
    have h3 := cellsT_at xs i hi
    rw [Nat.zero_add, h1, h2]
    exact h3
theorem IsT.new (w : World) (x : St) : IsT (w.alloc (.cells #[.int .u64 x.1, .int .u64 x.2] 32)) (some ⟨w.heap.size, 0, none⟩) [x] := by
  refine .inr ⟨_, _, rfl, by simp, fun i hi => ?_⟩
  obtain rfl : i = 0 := by simp at hi; exact hi
  constructor
  · rw [World.cell?_alloc_new]; rfl
  · rw [World.cell?_alloc_new]; rfl
theorem IsT.new2 (w : World) (x y : St) : IsT (w.alloc (.cells #[.int .u64 x.1, .int .u64 x.2, .int .u64 y.1, .int .u64 y.2] 32)) (some ⟨w.heap.size, 0, none⟩) [x, y] := by
  refine .inr ⟨_, _, rfl, by simp, fun i hi => ?_⟩
  rcases (show i = 0 ∨ i = 1 from by simp at hi; omega) with rfl | rfl
  all_goals
    constructor
    · rw [World.cell?_alloc_new]; rfl
    · rw [World.cell?_alloc_new]; rfl
theorem info32 : (Try.prog.info? 32).map (fun i => (i.zero, i.size, i.bytes)) = some (some (.agg #[.int .u64 0, .int .u64 0]), 2, 16) := by kernel_rfl

def eqT (x y : St) : Bool := x.1 == y.1 && x.2 == y.2
theorem eqT_iff (x y : St) : eqT x y = true ↔ x = y := by
  constructor
  · intro h
    simp only [eqT, Bool.and_eq_true, beq_iff_eq] at h
    exact Prod.ext h.1 h.2
  · rintro rfl; simp [eqT]
theorem fieldsT : ((Try.prog.fieldsOf 32).toList.map fun f => (f.name, f.type, f.offset)) = [("Id", 22, 0), ("Value", 22, 1)] := by kernel_rfl
theorem run_eqT (x y : St) (w : World) : (Op.equalIn 10000 32 (.agg #[.int .u64 x.1, .int .u64 x.2]) (.agg #[.int .u64 y.1, .int .u64 y.2])).run Try.prog w = .ok (eqT x y) w := by
  rw [run_equalIn_struct w 9999 32 _ _ (by kernel_rfl) (by kernel_rfl)]
  have h := fieldsT
  generalize (Try.prog.fieldsOf 32).toList = l at h
  obtain ⟨f, g, rfl⟩ := two_of l (by simpa using congrArg List.length h)
  simp at h
  obtain ⟨⟨h1, h2, h3⟩, h4, h5, h6⟩ := h
  simp [Op.eqFields, h1, h2, h3, h4, h5, h6, go_sem]
  by_cases e1 : x.1 = y.1 <;> by_cases e2 : x.2 = y.2 <;> simp [eqT, e1, e2]

theorem settings_any (a1 a2 : Option Addr) (cap1 cap2 : Nat) (xs ys : List St) (w : World) (hl : xs.length ≤ 1152921504606846976) (hl2 : ys.length ≤ 1152921504606846976) (hf : IsT w a1 xs) (hg : IsT w a2 ys) :
    Calls Try.prog 8 #[.slice a1 xs.length cap1, .slice a2 ys.length cap2] w fun e w' => e = .returned (.bool (decide (xs = ys))) ∧ Below w.heap.size w w' := by
  by_cases hlen : xs.length = ys.length
  · rcases hf with rfl | ⟨b, off, rfl, hb, hc⟩
    · obtain rfl : ys = [] := List.length_eq_zero_iff.1 (by simpa using hlen.symm)
      rw [show decide (([] : List St) = []) = true from by simp]
      clear hlen
      go_enter Try.func8, Try.ntmps8
      go_wp2
      refine wp_loop_rounds 1 ?_
      rw [rounds_succ]
      go_wp2
      go_ret
      exact ⟨rfl, Below.refl _ _⟩
    · rcases hg with rfl | ⟨b2, off2, rfl, hb2, hc2⟩
      · obtain rfl : xs = [] := List.length_eq_zero_iff.1 (by simpa using hlen)
        rw [show decide (([] : List St) = []) = true from by simp]
        clear hlen hc
        go_enter Try.func8, Try.ntmps8
        go_wp2
        refine wp_loop_rounds 1 ?_
        rw [rounds_succ]
        go_wp2
        go_ret
        exact ⟨rfl, Below.refl _ _⟩
      · have hne : ((xs.length : Int) != (ys.length : Int)) = false := by rw [hlen]; simp
        have HL := Lib.hid hlen
        clear hlen
        have HN : ∀ k, k < xs.length → xs.getD k default ≠ ys.getD k default → decide (xs = ys) = false := fun k _ hne => by
          rw [decide_eq_false_iff_not]; rintro rfl; exact hne rfl
        generalize hr : decide (xs = ys) = r at *
        have HR := Lib.hid hr
        clear hr
        go_enter Try.func8, Try.ntmps8
        go_wp2
        go_loopw [5] (fun i wr => ∃ k : Nat, k ≤ xs.length ∧ i = .int .i64 k ∧ xs.take k = ys.take k ∧ Below w.heap.size w wr) (fun i _ => xs.length - (intOf i).toNat)
        case atStart => exact ⟨0, Nat.zero_le _, rfl, rfl, Below.refl _ _⟩
        case round =>
          obtain ⟨k, hk, rfl, heq, hbel⟩ := hrel
          have HE := Lib.hid heq
          clear heq
          by_cases hlt : k < xs.length
          · have hlt2 : k < ys.length := by have := HL.out; omega
            obtain ⟨x, hx⟩ : ∃ x, xs.getD k default = x := ⟨_, rfl⟩
            obtain ⟨y, hy⟩ : ∃ x, ys.getD k default = x := ⟨_, rfl⟩
            obtain ⟨c1, c2⟩ := hc k hlt
            obtain ⟨c3, c4⟩ := hc2 k hlt2
            rw [hx] at c1 c2
            rw [hy] at c3 c4
            rw [← (bcell hbel).1 _ _ hb] at c1 c2
            rw [← (bcell hbel).1 _ _ hb2] at c3 c4
            have HX := Lib.hid hx
            have HY := Lib.hid hy
            have hk2 : (k : Int) < (xs.length : Int) := by omega
            have hk3 : (k : Int) < (ys.length : Int) := by omega
            have he := run_eqT x y
            clear hx hy hc hc2
            cases hq : eqT x y with
            | true =>
              have hxy : x = y := (eqT_iff x y).1 hq
              have HXY := Lib.hid hxy
              clear hxy
              go_wp2
              go_quiet (fail)
              go_wp2
              go_roundw
              case rel => exact ⟨k + 1, by omega, by go_num, take_both xs ys k hlt hlt2 HE.out (by rw [HX.out, HY.out, HXY.out]), below_drewN hbel _⟩
              case measure => simp [intOf]; omega
            | false =>
              have hxy : r = false := HN k hlt (by rw [HX.out, HY.out]; intro h; rw [h] at hq; simp [eqT] at hq)
              have HXY := Lib.hid hxy
              clear hxy
              go_wp2
              go_quiet (fail)
              go_wp2
              go_ret
              exact ⟨by rw [HXY.out]; rfl, below_drewN hbel _⟩
          · obtain rfl : xs.length = k := by omega
            have hxy : r = true := by
              have h := HE.out
              rw [List.take_length, HL.out, List.take_length] at h
              rw [← HR.out, h]; simp
            have HXY := Lib.hid hxy
            clear hxy
            go_wp2
            go_ret
            exact ⟨by rw [HXY.out]; rfl, hbel⟩
  · have hne : ((xs.length : Int) != (ys.length : Int)) = true := by rw [bne_iff_ne]; omega
    rw [show decide (xs = ys) = false from by rw [decide_eq_false_iff_not]; rintro rfl; exact hlen rfl]
    clear hlen
    go_enter Try.func8, Try.ntmps8
    go_wp2
    go_ret
    exact ⟨rfl, Below.refl _ _⟩
end Go.Proofs.Ytokbekiihdabhaa
