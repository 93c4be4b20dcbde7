/- The walk of the example that the statements ask ('known'). Conditions: none. -/
import Derived.Test.YtokbekiihdabhaaE
import Derived.Deep.RegionWith
namespace Go.Proofs.Ytokbekiihdabhaa
open Go.RowKit

theorem diff_known (w : World) : Calls Try.prog 6 #[.agg #[.int .u64 4096, .int .u64 1, .int .u64 4294967295, .int .u64 65535, .int .u64 16384, .int .u64 4294967295], .agg #[.int .u64 4096, .int .u64 1, .int .u64 4294967295, .int .u64 7, .int .u64 16384, .int .u64 4294967295]] w
    fun e w' => ∃ b off cap, e = .returned (.slice (some ⟨b, off, none⟩) 1 cap) ∧ w'.cell? ⟨b, off, none⟩ = some (.int .u64 4) ∧ w'.cell? ⟨b, off + 1, none⟩ = some (.int .u64 7) ∧ Below w.heap.size w w' := by
  refine (diff_any S6.dflt ⟨4096, 1, 4294967295, 7, 16384, 4294967295⟩ w).mono ?_
  rintro e w' ⟨a, c, rfl, hs, hb⟩
  rw [show diffTo S6.dflt ⟨4096, 1, 4294967295, 7, 16384, 4294967295⟩ 6 = [(4, 7)] from by decide] at hs ⊢
  rcases hs with h | ⟨b, off, rfl, _, hc⟩
  · cases h
  · have := hc 0 (by decide)
    simp only [Nat.zero_mul, Nat.add_zero] at this
    exact ⟨b, off, c, rfl, this.1, this.2, hb⟩

theorem known_any (w : World) : Calls Try.prog 5 #[] w fun e w' => e = .returned (.bool true) ∧ Below w.heap.size w w' := by
  go_enter Try.func5, Try.ntmps5
  go_wp2_with fail
  refine (dflt_any _).mono ?_
  rintro e w1 ⟨rfl, hb1⟩
  have c1 := apply_any S6.dflt (some ⟨w1.heap.size, 0, none⟩) 2 [(4, 7), (99, 1)] _ (by simp) (IsT.new2 w1 (4, 7) (99, 1))
  rw [show applyL S6.dflt [(4, 7), (99, 1)] = (⟨4096, 1, 4294967295, 7, 16384, 4294967295⟩, 0) from rfl] at c1
  have C1 := Lib.hid c1
  have HB1 := Lib.hid hb1
  clear c1 hb1
  go_wp2_with fail
  refine C1.out.mono ?_
  rintro e w2 ⟨rfl, hb2⟩
  have HB2 := Lib.hid ((HB1.out.alloc HB1.out.size (.cells #[.int .u64 4, .int .u64 7, .int .u64 99, .int .u64 1] 32)).trans (hb2.mono (by have := HB1.out.size; simp; omega)))
  clear hb2
  have c2 := apply_any ⟨4096, 1, 4294967295, 7, 16384, 4294967295⟩ (some ⟨w2.heap.size + 1, 0, none⟩) 1 [(4, 2147483648)] ((w2.alloc (.cells #[.int .u64 4096, .int .u64 1, .int .u64 4294967295, .int .u64 7, .int .u64 16384, .int .u64 4294967295] 24)).alloc (.cells #[.int .u64 4, .int .u64 2147483648] 32)) (by simp)
    (by have := IsT.new (w2.alloc (.cells #[.int .u64 4096, .int .u64 1, .int .u64 4294967295, .int .u64 7, .int .u64 16384, .int .u64 4294967295] 24)) (4, 2147483648); rw [World.size_alloc] at this; exact this)
  rw [show applyL ⟨4096, 1, 4294967295, 7, 16384, 4294967295⟩ [(4, 2147483648)] = (⟨0, 0, 0, 0, 0, 0⟩, 31) from rfl] at c2
  have C2 := Lib.hid c2
  clear c2
  go_wp2_with fail
  refine C2.out.mono ?_
  rintro e w3 ⟨rfl, hb3⟩
  have hS : IsBlk w3 w2.heap.size [.int .u64 4096, .int .u64 1, .int .u64 4294967295, .int .u64 7, .int .u64 16384, .int .u64 4294967295] 24 :=
    ((IsBlk.new w2 _ 24).alloc _).below hb3 (by simp; omega)
  have HS := Lib.hid hS
  have HB3 := Lib.hid (((HB2.out.alloc HB2.out.size (.cells #[.int .u64 4096, .int .u64 1, .int .u64 4294967295, .int .u64 7, .int .u64 16384, .int .u64 4294967295] 24)).alloc (by have := HB2.out.size; simp; omega) (.cells #[.int .u64 4, .int .u64 2147483648] 32)).trans (hb3.mono (by have := HB2.out.size; simp; omega)))
  clear hb3 hS
  go_wp2_with fail
  generalize hw4 : (w3.alloc (.cells #[.int .u64 0, .int .u64 0, .int .u64 0, .int .u64 0, .int .u64 0, .int .u64 0] 24)) = w4
  have HS4 := Lib.hid (show IsBlk w4 w2.heap.size [.int .u64 4096, .int .u64 1, .int .u64 4294967295, .int .u64 7, .int .u64 16384, .int .u64 4294967295] 24 from by rw [← hw4]; exact HS.out.alloc _)
  have HB4 := Lib.hid (show Below w.heap.size w w4 from by rw [← hw4]; exact HB3.out.alloc HB3.out.size _)
  clear hw4
  obtain ⟨y0, y1, y2, y3, y4, y5⟩ := six HS4.out
  go_region_with (first | (go_at_call 11; refine (dflt_any _).mono ?_; rintro e w5 ⟨rfl, hb5⟩; have HS5 := Lib.hid ((HS4.out.drew).below hb5 HS4.out.lt); have HB5 := Lib.hid ((below_drewN HB4.out 1).trans (hb5.mono HB4.out.size)); obtain ⟨x0, x1, x2, x3, x4, x5⟩ := six HS5.out; clear hb5) | (go_at_call 6; refine (diff_known _).mono ?_; rintro e w6 ⟨db, dof, dc, rfl, t0, t1, hb6⟩; have HS6 := Lib.hid (HS5.out.below hb6 HS5.out.lt); have HB6 := Lib.hid (HB5.out.trans (hb6.mono HB5.out.size)); clear hb6; clear x0 x1 x2 x3 x4 x5; obtain ⟨x0, x1, x2, x3, x4, x5⟩ := six HS6.out))
  all_goals
    have he := run_eqT (4, 7) (4, 7)
    rw [show eqT (4, 7) (4, 7) = true from rfl] at he
    go_wp2
    go_ret
    exact ⟨rfl, HB6.out⟩
end Go.Proofs.Ytokbekiihdabhaa
