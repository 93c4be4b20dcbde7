/- The walks of 'Diff' and 'Apply', the program's and the document's. Conditions: the lists' cells are where the slices say. -/
import Derived.Test.YtokbekiihdabhaaB
namespace Go.Proofs.Ytokbekiihdabhaa
open Go.RowKit

/-- The settings in which b differs from a, by their numbers: the first k. -/
def diffTo (a b : S6) (k : Nat) : List St := ((List.range k).filter fun (j : Nat) => a.get ((j : Int) + 1) != b.get ((j : Int) + 1)).map fun (j : Nat) => ((j : Int) + 1, b.get ((j : Int) + 1))
theorem diffTo_succ (a b : S6) (k : Nat) : diffTo a b (k + 1) = diffTo a b k ++ (if (a.get ((k : Int) + 1) != b.get ((k : Int) + 1)) = true then [((k : Int) + 1, b.get ((k : Int) + 1))] else []) := by
  simp only [diffTo, List.range_succ, List.filter_append, List.map_append, List.filter_cons, List.filter_nil]
  split <;> simp
theorem diffTo_len (a b : S6) (k : Nat) : (diffTo a b k).length ≤ k := by
  simp only [diffTo, List.length_map]
  exact Nat.le_trans (List.length_filter_le _ _) (by simp)
theorem get_at (x : S6) (j : Nat) (h : j < 6) : x.cells[j]? = some (.int .u64 (x.get ((j : Int) + 1))) := by
  match j, h with
  | 0, _ | 1, _ | 2, _ | 3, _ | 4, _ | 5, _ => rfl
theorem one_St (x y : Int) : ∀ u ∈ [Value.int .u64 x, .int .u64 y], u.oneCell' = true := by
  intro u hu; simp at hu; rcases hu with rfl | rfl <;> rfl
theorem new_two (w : World) (x y : Value) (t : TypeId) : ∀ j u, [x, y][j]? = some u → (w.alloc (.cells #[x, y] t)).cell? ((⟨w.heap.size, 0, none⟩ : Addr).add j) = some u := by
  intro j u hu
  have hadd : (⟨w.heap.size, 0, none⟩ : Addr).add j = ⟨w.heap.size, j, none⟩ := by unfold Addr.add; split <;> simp_all
  rw [hadd, World.cell?_alloc_new]
  simpa using hu

theorem diff_any (a b : S6) (w : World) :
    Calls Try.prog 6 #[.agg #[.int .u64 a.t, .int .u64 a.p, .int .u64 a.s, .int .u64 a.w, .int .u64 a.f, .int .u64 a.l], .agg #[.int .u64 b.t, .int .u64 b.p, .int .u64 b.s, .int .u64 b.w, .int .u64 b.f, .int .u64 b.l]] w
      fun e w' => ∃ a' cap', e = .returned (.slice a' (diffTo a b 6).length cap') ∧ IsT w' a' (diffTo a b 6) ∧ Below w.heap.size w w' := by
  obtain ⟨i0, hi, hz0, hz1, hz2⟩ := info_parts info32
  go_enter Try.func6, Try.ntmps6
  go_wp2
  generalize hW : (w.alloc (.cells #[.int .u64 a.t, .int .u64 a.p, .int .u64 a.s, .int .u64 a.w, .int .u64 a.f, .int .u64 a.l] 24)).alloc (.cells #[.int .u64 b.t, .int .u64 b.p, .int .u64 b.s, .int .u64 b.w, .int .u64 b.f, .int .u64 b.l] 24) = W
  have hA : IsBlk W w.heap.size a.cells 24 := by rw [← hW]; exact (IsBlk.new w a.cells 24).alloc _
  have hB : IsBlk W (w.heap.size + 1) b.cells 24 := by
    rw [← hW]
    have := IsBlk.new (w.alloc (.cells #[.int .u64 a.t, .int .u64 a.p, .int .u64 a.s, .int .u64 a.w, .int .u64 a.f, .int .u64 a.l] 24)) b.cells 24
    rw [World.size_alloc] at this
    exact this
  have hbW : Below w.heap.size w W := by rw [← hW]; exact ((Below.refl _ _).alloc (Nat.le_refl _) _).alloc (by simp) _
  have hsW : W.heap.size = w.heap.size + 2 := by rw [← hW]; simp
  have HA := Lib.hid hA
  have HB := Lib.hid hB
  have HBW := Lib.hid hbW
  have HSW := Lib.hid hsW
  clear hW hA hB hbW hsW
  go_loopw [5, 6] (fun v i wr => ∃ k : Nat, k ≤ 6 ∧ i = .int .u64 ((k : Int) + 1) ∧ wr.ownsRow (w.heap.size + 2) 32 2 v (diffTo a b k).length (cellsT (diffTo a b k)) ∧ Below (w.heap.size + 2) W wr) (fun _ i _ => 7 - (intOf i).toNat)
  case atStart => exact ⟨0, by omega, rfl, World.ownsRow_nil _ _ _ _, Below.refl _ _⟩
  case round =>
    obtain ⟨k, hk, rfl, hown, hbel⟩ := hrel
    by_cases hlt : k < 6
    · have hsu := diffTo_succ a b k
      have hfl := diffTo_len a b k
      have hca : wr.cell? ⟨w.heap.size, k, none⟩ = some (.int .u64 (a.get ((k : Int) + 1))) := by
        rw [(bcell hbel).1 _ _ (by omega), HA.out.cell]; exact get_at a k hlt
      have hcb : wr.cell? ⟨w.heap.size + 1, k, none⟩ = some (.int .u64 (b.get ((k : Int) + 1))) := by
        rw [(bcell hbel).1 _ _ (by omega), HB.out.cell]; exact get_at b k hlt
      obtain ⟨ga, hga⟩ : ∃ g, a.get ((k : Int) + 1) = g := ⟨_, rfl⟩
      obtain ⟨gb, hgb⟩ : ∃ g, b.get ((k : Int) + 1) = g := ⟨_, rfl⟩
      rw [hga] at hca hsu
      rw [hgb] at hcb hsu
      have hbs : w.heap.size + 2 ≤ wr.heap.size := by have := hbel.size; have := HSW.out; omega
      have hki : (k : Int) ≤ 5 := by omega
      clear hga hgb
      have P1 := Lib.hid (fun w' => place_some (w.heap.size + 1) k w' hlt)
      have P2 := Lib.hid (fun w' => place_some w.heap.size k w' hlt)
      have HBE := Lib.hid hbel
      clear hbel
      cases hq : ga != gb with
      | true =>
        rw [hq, if_pos rfl] at hsu
        have HS := Lib.hid hsu
        clear hsu
        go_wp2_with fail
        refine (P1.out _).mono ?_
        rintro e w' ⟨rfl, rfl⟩
        go_wp2_with fail
        refine (P2.out _).mono ?_
        rintro e w' ⟨rfl, rfl⟩
        go_wp2_with (at_builtin; refine wpList_append_own _ rfl (.tmp 22) (.tmp 26) 26 rfl (w.heap.size + 2) 32 i0 (.agg #[.int .u64 0, .int .u64 0]) 2 16 Try.underlying26 hi hz0 hz1 hz2 rfl (by decide) _ _ _ rfl (hown.alloc _) ⟨wr.heap.size, 0, none⟩ 1 1 [.int .u64 ((k : Int) + 1), .int .u64 gb] rfl rfl (new_two _ _ _ _) (one_St _ _) (by unfold maxLen; omega) (by omega) (by simp; omega) ?_; intro v1 w1 hown1 hgrow1 hnil1)
        have hb2 := (HBE.out.alloc hbs (.cells #[.int .u64 ((k : Int) + 1), .int .u64 gb] 32)).grown hgrow1 (by simp; omega) (fun k hk => (hown.lt k hk).1)
        clear hgrow1 hnil1 hown hca hcb
        go_roundw
        case rel => exact ⟨k + 1, by omega, by go_num, by rw [HS.out, List.length_append, cellsT_append]; exact hown1, hb2⟩
        case measure => simp [intOf]; omega
      | false =>
        rw [hq, if_neg (by simp), List.append_nil] at hsu
        have HS := Lib.hid hsu
        clear hsu
        go_wp2_with fail
        refine (P1.out _).mono ?_
        rintro e w' ⟨rfl, rfl⟩
        go_wp2_with fail
        refine (P2.out _).mono ?_
        rintro e w' ⟨rfl, rfl⟩
        go_wp2_with fail
        go_roundw
        case rel => exact ⟨k + 1, by omega, by go_num, by rw [HS.out]; exact hown, HBE.out⟩
        case measure => simp [intOf]; omega
    · obtain rfl : k = 6 := by omega
      obtain ⟨a', cap', rfl, hs⟩ := IsT_own hown
      go_wp2
      go_ret
      exact ⟨_, _, rfl, hs, HBW.out.trans (hbel.mono (by omega))⟩
end Go.Proofs.Ytokbekiihdabhaa
