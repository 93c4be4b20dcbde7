/- The contract of Ranges on both sides (printed by gen21j.py). Conditions: the set has no more than 2^40 ranges. -/
import Derived.Test.YthnokfchebmjiaaRgG
namespace Go.Proofs.Ythnokfchebmjiaa
open Go.RowKit

/-- A range in a block of its own. -/
theorem Rd.new (w : World) (x : Rng) : Rd (w.alloc (.cells #[.int .u64 (x.1 : Int), .int .u64 (x.2 : Int)] 35)) 2 (.slice (Option.some ⟨w.heap.size, 0, none⟩) 1 1) 1 (cr [x]) := by
  refine ⟨rfl, .inr ⟨w.heap.size, 0, 1, rfl, by omega, fun _ => by simp, fun j hj => ?_⟩⟩
  rw [World.cell?_alloc_at (w := w) _ _ w.heap.size _ rfl]
  match j, hj with
  | 0, _ => rfl
  | 1, _ => rfl

set_option maxHeartbeats 1000000 in
theorem ranges_any (w : World) (p : Nat) (F : List Nat) (L : List Rng) (b : Nat) (most : Int) (h : IsS w p 79 F L b) (hb : L.length ≤ 1099511627776) :
    Calls Try.prog 40 #[.pointer (some ⟨p, 0, none⟩), .int .i64 most] w fun e w' => ∃ v, e = .returned v ∧ Sl w' 35 2 v (L.reverse.take most.toNat).length (cr (L.reverse.take most.toNat)) ∧ Touch [] w w' ∧ ∀ g ∈ own v, w.heap.size ≤ g := by
  have HX := Lib.hid h
  obtain ⟨i0, hi0, hz0, hz1, hz2⟩ := info_parts info38
  obtain ⟨a, c, h1, h2, _, _, h6⟩ := h
  have c0 := h1.cell 0
  simp only [List.getElem?_cons_zero] at c0
  have hl := h1.lt
  clear h1 h2 h6
  go_enter Try.func40, Try.ntmps40
  go_wp2_with fail
  go_loopw [6, 5] (fun i o wr => ∃ k : Nat, ∃ v : Value, k ≤ L.length ∧ i = .int .i64 ((L.length : Int) - 1 - k) ∧ o = v ∧ Hid (k ≤ most.toNat) ∧ Sl wr 35 2 v k (cr (L.reverse.take k)) ∧ Touch [] w wr ∧ (∀ g ∈ own v, w.heap.size ≤ g)) (fun i _ _ => ((intOf i) + 1).toNat)
  case atStart => exact ⟨0, _, by omega, by simp, rfl, Lib.hid (by omega), by simpa [cr] using Sl.nil _ 35 2, Touch.refl _ _, by simp⟩
  case round =>
    obtain ⟨k, v, hk, rfl, rfl, HK, hS, hT, hO⟩ := hrel
    have HT := Lib.hid hT
    have HO := Lib.hid hO
    have HS := Lib.hid hS
    obtain ⟨va, vc, hve, _⟩ := hS.form
    subst hve
    obtain ⟨a', c', h1, h2, _, _, h6⟩ := HX.out.keep hT
    have c0' := h1.cell 0
    simp only [List.getElem?_cons_zero] at c0'
    have hl' := h1.lt
    have HR := Lib.hid h2.rd
    clear h1 h2 h6 hS hT hO
    by_cases hlt : k < L.length
    · have i1 : (0 : Int) ≤ (L.length : Int) - 1 - k := by omega
      by_cases hm : (k : Int) < most
      · obtain ⟨x, hx⟩ : ∃ x, L[L.length - 1 - k]? = some x := ⟨_, List.getElem?_eq_getElem (by omega)⟩
        obtain ⟨g, o, rfl⟩ := HR.out.some (by omega)
        obtain ⟨c1, c2, hg⟩ := HR.out.two rfl _ x hx
        have hrx : L.reverse[k]? = some x := by rw [List.getElem?_reverse hlt]; exact hx
        have hxs : L.reverse.take (k + 1) = L.reverse.take k ++ [x] := by rw [List.take_add_one, hrx]; rfl
        obtain ⟨x1, x2⟩ := x
        have HXS := Lib.hid hxs
        simp only at c1 c2
        have e1 : ((L.length : Int) - 1 - (k : Int)).toNat = L.length - 1 - k := by omega
        have e2 : (L.length : Int) - 1 - (k : Int) < (L.length : Int) := by omega
        have HM := Lib.hid (show k + 1 ≤ most.toNat from by omega)
        clear hx hrx hxs
        go_wp2_with (at_builtin; refine wpList_append_sl _ rfl _ _ 36 rfl 35 i0 _ 2 16 under27 hi0 hz0 hz1 hz2 rfl (by omega) (.slice va k vc) k (cr (L.reverse.take k)) rfl (HS.out.touch ((Touch.refl [] _).alloc _) (by simp)) _ 1 (cr [(x1, x2)]) rfl (.new _ (x1, x2)) (cr_one _) (by unfold maxLen; omega) (by omega) fun a3 c3 w3 k1 k2 k3 k4 => ?_)
        go_roundw
        case rel =>
          refine ⟨k + 1, _, by omega, by go_num, rfl, HM, ?_, ?_, ?_⟩
          · rw [HXS.out, cr_append]; exact k1
          · exact (HT.out.trans ((Touch.refl [] _).alloc _) (by simp)).trans k2 (fun g hg => .inr (HO.out g hg))
          · intro g hg
            rcases k3 g hg with h3 | h3
            · exact HO.out g h3
            · have := HT.out.size; simp at h3; omega
        case measure => simp [intOf]; omega
      · have e3 : most.toNat = k := by have := HK.out; omega
        clear c0'
        go_wp2_with fail
        go_ret
        refine ⟨.slice va k vc, rfl, ?_, HT.out, HO.out⟩
        exact HS.out
    · obtain rfl : k = L.length := by omega
      have i1 : ¬ (0 : Int) ≤ (L.length : Int) - 1 - (L.length : Int) := by omega
      clear c0'
      go_wp2_with fail
      go_ret
      refine ⟨.slice va L.length vc, rfl, ?_, HT.out, HO.out⟩
      have := HS.out
      rw [List.take_of_length_le (by simp)] at this
      rw [Nat.min_eq_right HK.out, List.take_of_length_le (i := most.toNat) (by simpa using HK.out)]
      exact this

end Go.Proofs.Ythnokfchebmjiaa
