/- A row of bytes as an argument, opened. Conditions: none. -/
import Derived.Test.YtgmfbgclgjchpaaF
import Derived.ChangeSlices
import Derived.ChangeOld
namespace Go.Proofs.Ytgmfbgclgjchpaa
open Go.ChangeShapes Go.WideShapes Go.ChangeAt Go.RowKit

/-- The slice at a holds the bytes xs. -/
def IsU (w : World) (a : Option Addr) (xs : List Int) : Prop :=
  xs = [] ∨ ∃ b off, a = some ⟨b, off, none⟩ ∧ b < w.heap.size ∧ ∀ i, i < xs.length → w.cell? ⟨b, off + i, none⟩ = some (.int .u8 (xs.getD i 0))
theorem IsU.below {w w' : World} {a : Option Addr} {xs : List Int} (h : IsU w a xs) (hb : Below w.heap.size w w') : IsU w' a xs := by
  rcases h with rfl | ⟨b, off, rfl, hl, hc⟩
  · exact .inl rfl
  · refine .inr ⟨b, off, rfl, by have := hb.size; omega, fun i hi => ?_⟩
    rw [(bcell hb).1 _ _ hl]
    exact hc i hi
theorem und22 : Try.prog.underlying 22 = some (.slice 5) := by kernel_rfl
theorem open_u8s {H : Type} {enc : TypeId × Value → H} {W : World} {base : Nat} {v : Value} {d : DataW H} {p : List MemPlace} (hok : Value.okWide Try.prog W .any base 22 v)
    (h : DataW.Trod enc Try.prog W 0 (fun _ => true) true 22 v d p) :
    ∃ a xs cap, v = .slice a xs.length cap ∧ IsU W a xs ∧ ∀ x ∈ xs, 0 ≤ x ∧ x ≤ 255 := by
  obtain ⟨a0, len0, cap0, rfl⟩ := okWide_slice und22 hok
  obtain ⟨fuel, hf⟩ := h
  rcases open_ints und22 und5 c5 hf with ⟨hcs, hx⟩ | ⟨a, len, cap, zs, hcs, _, hl, hm, hlen, hx, hc, hw⟩
  · simp [Value.cells] at hcs
    obtain ⟨rfl, rfl, rfl⟩ := hcs
    exact ⟨none, [], 0, rfl, .inl rfl, by simp⟩
  · simp [Value.cells] at hcs
    obtain ⟨rfl, rfl, rfl⟩ := hcs
    have hle : len0 ≤ zs.length := by rw [hlen]; split <;> omega
    refine ⟨some a, zs.take len0, cap0, by simp; omega, ?_, fun x hx => ?_⟩
    · by_cases h0 : len0 = 0
      · left; simp [h0]
      · right
        obtain ⟨b, off, spot⟩ := a
        have hc0 := hc 0 (by omega)
        have hspot : spot = none := by simpa [Addr.add] using World.cell?_spot hc0
        subst hspot
        refine ⟨b, off, rfl, ?_, fun i hi => ?_⟩
        · have := World.block_lt_of_cell? W _ hc0
          simpa [Addr.add] using this
        · have hi' : i < len0 := by simp at hi; omega
          have hci := hc i (by omega)
          have e1 : ∀ j, (⟨b, off, none⟩ : Addr).add j = ⟨b, off + j, none⟩ := fun j => by unfold Addr.add; split <;> simp_all
          rw [e1] at hci
          rw [hci]
          simp [List.getD_eq_getElem?_getD, hi']
    · exact bounds_u8 (hw x (List.mem_of_mem_take hx))
end Go.Proofs.Ytgmfbgclgjchpaa
