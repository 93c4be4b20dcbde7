/- The contracts of New, and of the comparing of two lists of ranges. Conditions: none beyond what is read. -/
import Derived.Test.YthnokfchebmjiaaRgN
namespace Go.Proofs.Ythnokfchebmjiaa
open Go.RowKit

/-- A new empty set. -/
theorem IsS.new (w : World) (t : TypeId) : IsS (w.alloc (.cells #[.slice none 0 0, .int .u64 0] t)) w.heap.size t [w.heap.size] [] 0 :=
  ⟨none, 0, IsBlk.new w _ t, Sl.nil _ _ _, by simp, by simp, V.nil 0, by unfold mx; omega⟩
theorem new_any (w : World) : Calls Try.prog 21 #[] w fun e w' => e = .returned (.pointer (some ⟨w.heap.size, 0, none⟩)) ∧ w' = w.alloc (.cells #[.slice none 0 0, .int .u64 0] 79) := by
  go_enter Try.func21, Try.ntmps21
  go_wp2_with fail
  go_ret
  exact ⟨rfl, rfl⟩

end Go.Proofs.Ythnokfchebmjiaa
