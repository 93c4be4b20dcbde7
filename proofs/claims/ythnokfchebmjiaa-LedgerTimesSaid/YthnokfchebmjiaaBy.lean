/- Slices of bytes as arguments. Conditions: none of their own. -/
import Derived.Test.YthnokfchebmjiaaFa
import Derived.ProofKit
import Derived.OpenShut
import Derived.ChangeSame
import Derived.ChangeSlices
import Derived.ChangeOld
namespace Go.Proofs.Ythnokfchebmjiaa
open Go.ChangeShapes Go.WideShapes Go.ChangeAt Go.RowKit
/-- A slice of bytes as an argument. -/
theorem open_u8s {H : Type} {enc : TypeId × Value → H} {W : World} {base : Nat} {v : Value} {d : DataW H} {p : List MemPlace} (hok : Value.okWide Try.prog W .any base 22 v)
    (h : DataW.Trod enc Try.prog W 0 (fun _ => true) true 22 v d p) (_ : ∀ n ∈ d.weights Try.prog 22, n ≤ reachBytes) :
    ∃ (a : Option Addr) (zs : List Int) (cap : Nat), v = .slice a zs.length cap ∧ Rd W 1 v zs.length (zs.map (Value.int .u8)) ∧ ∀ z ∈ zs, 0 ≤ z ∧ z ≤ 255 := by
  obtain ⟨a0, len0, cap0, rfl⟩ := okWide_slice Try.underlying22 hok
  obtain ⟨fuel, hf⟩ := h
  rcases open_ints Try.underlying22 Try.underlying5 (by kernel_rfl) hf with ⟨hcs, _⟩ | ⟨a, len, cap, zs, hcs, _, hl, hm, hlen, _, hc, hw⟩
  · simp [Value.cells] at hcs
    obtain ⟨rfl, rfl, rfl⟩ := hcs
    exact ⟨none, [], 0, rfl, ⟨rfl, .inl ⟨none, 0, rfl, rfl⟩⟩, by simp⟩
  · simp [Value.cells] at hcs
    obtain ⟨rfl, rfl, rfl⟩ := hcs
    have hle : len0 ≤ zs.length := by rw [hlen]; split <;> omega
    have hb : ∀ n ∈ zs, 0 ≤ n ∧ n ≤ 255 := fun n hn => bounds_u8 (hw n hn)
    have hl2 : (zs.take len0).length = len0 := by simp; omega
    refine ⟨some a, zs.take len0, cap0, by rw [hl2], ?_, fun z hz => hb z (List.mem_of_mem_take hz)⟩
    rw [hl2]
    refine ⟨by simp; omega, ?_⟩
    obtain ⟨b, off, spot⟩ := a
    by_cases h0 : len0 = 0
    · subst h0
      exact .inl ⟨_, _, rfl, rfl⟩
    · have hc0 := hc 0 (by omega)
      have hspot : spot = none := by simpa [Addr.add] using World.cell?_spot hc0
      subst hspot
      refine .inr ⟨b, off, cap0, rfl, hl, fun _ => ?_, fun j hj => ?_⟩
      · have := World.block_lt_of_cell? W _ hc0
        simpa [Addr.add] using this
      · have := hc j (by omega)
        rw [Addr.add_lit] at this
        rw [this]
        have hjl : j < zs.length := by omega
        simp [hjl, show j < len0 from by omega]
/-- Bytes as natural numbers. -/
def bs (ns : List Nat) : List Value := ns.map fun n : Nat => Value.int .u8 (n : Int)
theorem bs_of (zs : List Int) (h : ∀ z ∈ zs, 0 ≤ z ∧ z ≤ 255) : ∃ ns : List Nat, zs.length = ns.length ∧ zs.map (Value.int .u8) = bs ns ∧ ∀ n ∈ ns, n < 256 := by
  refine ⟨zs.map Int.toNat, by simp, ?_, ?_⟩
  · unfold bs
    rw [List.map_map]
    refine List.map_congr_left fun z hz => ?_
    have := h z hz
    simp only [Function.comp]
    rw [Int.toNat_of_nonneg this.1]
  · intro n hn
    obtain ⟨z, hz, rfl⟩ := List.mem_map.1 hn
    have := h z hz
    omega
theorem rd_byte {w : World} {a : Option Addr} {n c : Nat} {ns : List Nat} (h : Rd w 1 (.slice a n c) n (bs ns)) (hn : ns.length = n) (i x : Nat) (hx : ns[i]? = some x) :
    ∃ g o, a = Option.some ⟨g, o, none⟩ ∧ w.cell? ⟨g, o + i, none⟩ = some (.int .u8 (x : Int)) ∧ g < w.heap.size := by
  have hi : i < ns.length := (List.getElem?_eq_some_iff.1 hx).1
  rcases h.2 with ⟨_, _, _, h0⟩ | ⟨b, off, cap, he, hnc, hb, hc⟩
  · omega
  simp at he
  obtain ⟨rfl, rfl⟩ := he
  refine ⟨b, off, rfl, ?_, hb (by omega)⟩
  rw [hc i (by omega)]
  simp [bs, hx]
end Go.Proofs.Ythnokfchebmjiaa
