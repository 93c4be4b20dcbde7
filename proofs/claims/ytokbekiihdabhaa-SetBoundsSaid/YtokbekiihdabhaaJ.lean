/- The comparison of two rows of seven. Conditions: none. -/
import Derived.Test.YtokbekiihdabhaaH
import Derived.ChangeKeysEq
namespace Go.Proofs.Ytokbekiihdabhaa
open Go.RowKit
theorem cells22 : Try.prog.cellsOf 22 = 1 := by kernel_rfl
theorem one22 (p : Bool) (h : (Try.prog.info? 22).isSome = p) : p = true := by rw [← h]; kernel_rfl
theorem und29 : Try.prog.underlying 29 = some (.array 7 22) := by kernel_rfl
theorem run_eqW (a b c d e f g : Int) (w : World) : (Op.equalIn 10000 29 (.agg #[.int .u64 a, .int .u64 b, .int .u64 c, .int .u64 d, .int .u64 e, .int .u64 f, .int .u64 g]) (.agg #[.int .u64 a, .int .u64 b, .int .u64 c, .int .u64 d, .int .u64 e, .int .u64 f, .int .u64 g])).run Try.prog w = .ok true w := by
  obtain ⟨i, hi⟩ := Option.isSome_iff_exists.1 (one22 _ rfl)
  rw [run_equalIn_array w 9999 _ _ und29 hi, cells22]
  simp [Op.eqItems, go_sem, List.range_succ]
end Go.Proofs.Ytokbekiihdabhaa
