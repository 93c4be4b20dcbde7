/- The walk of the statement on what is found in fields. Conditions: the lists' cells are where the slices say; each text takes no more than any can. -/
import Derived.Test.YtnakdlneennofaaE
import Derived.Laws.AppendOwnNone
namespace Go.Proofs.Ytnakdlneennofaa
open Go.RowKit

theorem IsF.below {w w' : World} {a : Option Addr} {xs : List Fld} (h : IsF w a xs) (hb : Below w.heap.size w w') : IsF w' a xs := by
  rcases h with rfl | ⟨b, off, rfl, hl, hc⟩
  · exact .inl rfl
  · refine .inr ⟨b, off, rfl, by have := hb.size; omega, fun i hi => ?_⟩
    rw [(bcell hb).1 _ _ hl, (bcell hb).1 _ _ hl]
    exact hc i hi
theorem IsS.below {w w' : World} {a : Option Addr} {xs : List ByteArray} (h : IsS w a xs) (hb : Below w.heap.size w w') : IsS w' a xs := by
  rcases h with rfl | ⟨b, off, rfl, hl, hc⟩
  · exact .inl rfl
  · refine .inr ⟨b, off, rfl, by have := hb.size; omega, fun i hi => ?_⟩
    rw [(bcell hb).1 _ _ hl]
    exact hc i hi
theorem info32 : (Try.prog.info? 32).map (fun i => (i.zero, i.size, i.bytes)) = some (some (.agg #[.string ByteArray.empty, .string ByteArray.empty]), 2, 32) := by kernel_rfl
def cellsF (xs : List Fld) : List Value := xs.flatMap fun x => [.string x.1, .string x.2]
theorem cellsF_len (xs : List Fld) : (cellsF xs).length = xs.length * 2 := by
  induction xs with
  | nil => rfl
  | cons x l ih =>
    have e : cellsF (x :: l) = .string x.1 :: .string x.2 :: cellsF l := rfl
    rw [e, List.length_cons, List.length_cons, List.length_cons, ih]; omega
theorem cellsF_at (xs : List Fld) : ∀ i, i < xs.length → (cellsF xs)[i * 2]? = some (.string (xs.getD i default).1) ∧ (cellsF xs)[i * 2 + 1]? = some (.string (xs.getD i default).2) := by
  induction xs with
  | nil => intro i hi; simp at hi
  | cons x l ih =>
    intro i hi
    have e : cellsF (x :: l) = .string x.1 :: .string x.2 :: cellsF l := rfl
    rw [e]
    match i with
    | 0 => exact ⟨rfl, rfl⟩
    | i + 1 =>
      have := ih i (by simp at hi; omega)
      rw [show (i + 1) * 2 = i * 2 + 1 + 1 from by omega]
      simpa using this
theorem cellsF_one (xs : List Fld) : ∀ u ∈ cellsF xs, u.oneCell' = true := by
  intro u hu
  simp [cellsF] at hu
  obtain ⟨a, b, _, rfl | rfl⟩ := hu <;> rfl
theorem cellsF_mem (w : World) (b off : Nat) (xs : List Fld) (hc : ∀ i, i < xs.length → w.cell? ⟨b, off + i * 2, none⟩ = some (.string (xs.getD i default).1) ∧ w.cell? ⟨b, off + i * 2 + 1, none⟩ = some (.string (xs.getD i default).2)) :
    ∀ j u, (cellsF xs)[j]? = some u → w.cell? ((⟨b, off, none⟩ : Addr).add j) = some u := by
  intro j u hu
  have hj : j < (cellsF xs).length := by
    rcases Nat.lt_or_ge j (cellsF xs).length with h | h
    · exact h
    · rw [List.getElem?_eq_none h] at hu; cases hu
  rw [cellsF_len] at hj
  have hadd : (⟨b, off, none⟩ : Addr).add j = ⟨b, off + j, none⟩ := by unfold Addr.add; split <;> simp_all
  rw [hadd]
  obtain ⟨i, hi | hi⟩ : ∃ i, j = i * 2 ∨ j = i * 2 + 1 := ⟨j / 2, by omega⟩
  · subst hi
    have h1 := (cellsF_at xs i (by omega)).1
    rw [h1] at hu
    rw [(hc i (by omega)).1]; exact hu
  · subst hi
    have h1 := (cellsF_at xs i (by omega)).2
    rw [h1] at hu
    rw [← Nat.add_assoc, (hc i (by omega)).2]; exact hu
theorem IsF_own {w : World} {B : Nat} {v : Value} {xs : List Fld} (h : w.ownsRow B 32 2 v xs.length (cellsF xs)) :
    ∃ a cap, v = .slice a xs.length cap ∧ IsF w a xs := by
  rcases h.2 with ⟨rfl, h0⟩ | ⟨g, cap, cur, rfl, hb, hg, _⟩
  · exact ⟨none, 0, by rw [h0], .inl (List.length_eq_zero_iff.1 h0)⟩
  · refine ⟨_, _, rfl, .inr ⟨g, 0, rfl, (Array.getElem?_eq_some_iff.1 hg).1, fun i hi => ?_⟩⟩
    have h1 := h.cellAt (i * 2) (by omega)
    have h2 := h.cellAt (i * 2 + 1) (by omega)
    have h3 := cellsF_at xs i hi
    rw [Nat.zero_add, h1, h2]
    exact h3

theorem finds_dark (a1 a2 : Option Addr) (cap1 cap2 : Nat) (xs ys : List Fld) (name : ByteArray) (same : Bool) (w : World) (hf : IsF w a1 xs) (hg : IsF w a2 ys)
    (hm1 : ∀ x ∈ xs, x.1.size ≤ 140737488355328 ∧ x.2.size ≤ 140737488355328) (hm2 : ∀ x ∈ ys, x.1.size ≤ 140737488355328 ∧ x.2.size ≤ 140737488355328) (hd : lightF xs = false ∨ lightF ys = false) :
    Calls Try.prog 5 #[.slice a1 xs.length cap1, .slice a2 ys.length cap2, .string name, .bool same] w fun e w' => e = .returned (.bool true) ∧ Below w.heap.size w w' := by
  have HF := Lib.hid hf
  have HG := Lib.hid hg
  have HM1 := Lib.hid hm1
  have HM2 := Lib.hid hm2
  clear hf hg hm1 hm2
  cases hx : lightF xs with
  | false =>
    clear hd
    go_enter Try.func5, Try.ntmps5
    go_wp2_with fail
    refine (known_any _).mono ?_
    rintro e w1 ⟨rfl, hb⟩
    have HF1 := Lib.hid (HF.out.below hb)
    go_wp2_with fail
    refine (light_any _ _ _ _ HF1.out HM1.out).mono ?_
    rintro e w2 ⟨rfl, hb2⟩
    go_wp2_with fail
    go_ret
    exact ⟨rfl, hb.trans (hb2.mono hb.size)⟩
  | true =>
    have hy : lightF ys = false := by simpa [hx] using hd
    clear hd
    go_enter Try.func5, Try.ntmps5
    go_wp2_with fail
    refine (known_any _).mono ?_
    rintro e w1 ⟨rfl, hb⟩
    have HF1 := Lib.hid (HF.out.below hb)
    have HG1 := Lib.hid (HG.out.below hb)
    go_wp2_with fail
    refine (light_any _ _ _ _ HF1.out HM1.out).mono ?_
    rintro e w2 ⟨rfl, hb2⟩
    have HG2 := Lib.hid (HG1.out.below hb2)
    go_wp2_with fail
    refine (light_any _ _ _ _ HG2.out HM2.out).mono ?_
    rintro e w3 ⟨rfl, hb3⟩
    go_wp2_with fail
    go_ret
    have hb23 := hb2.trans (hb3.mono hb2.size)
    exact ⟨rfl, hb.trans (hb23.mono hb.size)⟩
end Go.Proofs.Ytnakdlneennofaa
