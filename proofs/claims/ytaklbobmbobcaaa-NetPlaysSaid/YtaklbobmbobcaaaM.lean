/- The parts of a net's texts: one taken out, one laid behind. Conditions: none of their own. -/
import Derived.Test.YtaklbobmbobcaaaJ
namespace Go.Proofs.Ytaklbobmbobcaaa
open Go.RowKit

section
variable {w wr w' : World} {q : Nat} {L M L' M' : List (List UInt8)}
theorem NetAt.lies {a : Option Addr} {m c : Nat} (h : NetAt w wr q L M (.slice a m c)) (h0 : 0 < M.length) : ∃ g o, a = some ⟨g, o, none⟩ := by
  obtain ⟨K, F, h1, h2, _⟩ := h
  rcases h2.cases with ⟨_, h3, _⟩ | ⟨g', off', cap', he, _⟩
  · omega
  · simp at he
    exact ⟨_, _, he.1⟩
theorem NetAt.cell {g o c : Nat} (h : NetAt w wr q L M (.slice (some ⟨g, o, none⟩) M.length c)) (i : Nat) (hi : i < M.length) : wr.cell? ⟨g, o + i, none⟩ = some (.string (str (M.getD i []))) ∧ g < wr.heap.size ∧ M.length ≤ c := by
  obtain ⟨K, F, h1, h2, _⟩ := h
  rcases h2.cases with ⟨h0, _⟩ | ⟨g', off', cap', he, hnc, _, hlt, hcell, hfr⟩
  · simp at h0
  simp at he
  obtain ⟨⟨rfl, rfl⟩, rfl⟩ := he
  refine ⟨?_, hlt (by omega), hnc⟩
  rw [hcell i (by omega)]
  simp [sv, hi]
/-- What stands ahead of a place, and what behind it. -/
theorem NetAt.parts {g o c : Nat} (h : NetAt w wr q L M (.slice (some ⟨g, o, none⟩) M.length c)) (i : Nat) (hi : i < M.length) :
    ∃ A : Addr, (if c = i + 1 then (some ⟨g, o, none⟩ : Option Addr) else some ⟨g, o + (i + 1), none⟩) = some A ∧ Sl wr 9 1 (.slice (some ⟨g, o, none⟩) i i) i ((sv M).take i) ∧
      Rd wr 1 (.slice (some A) (M.length - (i + 1)) (c - (i + 1))) (M.length - (i + 1)) ((sv M).drop (i + 1)) := by
  obtain ⟨K, F, h1, h2, _⟩ := h
  have hc : M.length ≤ c := by
    rcases h2.cases with ⟨h0, _⟩ | ⟨g', off', cap', he, hnc, _⟩
    · simp at h0
    · simp at he
      omega
  have p1 := h2.part 0 i i (by omega) (by omega) (by omega)
  rw [Nat.zero_mul, Nat.add_zero, List.drop_zero, Nat.mul_one] at p1
  have p2 := (h2.part (i + 1) (M.length - (i + 1)) (c - (i + 1)) (by omega) (by omega) (by omega)).rd
  rw [Nat.mul_one, Nat.mul_one, List.take_of_length_le (by simp [sv_len])] at p2
  by_cases hcc : c = i + 1
  · refine ⟨⟨g, o, none⟩, by simp [hcc], p1, by simp [sv_len], .inl ⟨_, _, by rw [show M.length - (i + 1) = 0 from by omega], by omega⟩⟩
  · exact ⟨⟨g, o + (i + 1), none⟩, by simp [hcc], p1, p2⟩
theorem own_lt {a : Addr} {n m c d : Nat} (h : c ≤ d) : ∀ g ∈ own (.slice (some a) n c), g ∈ own (.slice (some a) m d) := fun g hg => by
  have := mem_own hg
  rw [own_some _ _ _ (by omega)]
  simp [this.1]
/-- One text less. -/
theorem NetAt.erased {g o c i : Nat} {a2 : Option Addr} {c2 n2 : Nat} {L2 : List (List UInt8)} (h : NetAt w wr q L2 M (.slice (some ⟨g, o, none⟩) M.length c)) (hi : i < M.length) (hc : M.length ≤ c)
    (k1 : Sl w' 9 1 (.slice a2 n2 c2) n2 ((sv M).take i ++ (sv M).drop (i + 1))) (k2 : Touch (own (.slice (some ⟨g, o, none⟩) i i)) wr w') (k3 : ∀ r ∈ own (.slice a2 n2 c2), r ∈ own (.slice (some ⟨g, o, none⟩) i i) ∨ wr.heap.size ≤ r) :
    NetAt w w' q L2 (M.eraseIdx i) (.slice a2 n2 c2) := by
  have hn : n2 = (M.eraseIdx i).length := by
    have := k1.1
    simp [sv_len] at this
    rw [List.length_eraseIdx_of_lt hi]
    omega
  rw [← List.eraseIdx_eq_take_drop_succ, ← sv_erase] at k1
  have ho : ∀ r ∈ own (.slice (some ⟨g, o, none⟩) i i), r ∈ own (.slice (some ⟨g, o, none⟩) M.length c) := own_lt (by omega)
  refine NetAt.turned h (by rw [hn] at k1 ⊢; exact k1) (k2.mono (fun j hj => .inl (ho j hj))) (fun r hr => (k3 r hr).imp (ho r) id)
/-- The whole, to be grown. -/
theorem NetAt.whole {g o c : Nat} (h : NetAt w wr q L M (.slice (some ⟨g, o, none⟩) M.length c)) : Sl wr 9 1 (.slice (some ⟨g, o, none⟩) M.length M.length) M.length (sv M) ∧ M.length ≤ c := by
  obtain ⟨K, F, h1, h2, _⟩ := h
  have hc : M.length ≤ c := by
    rcases h2.cases with ⟨h0, _⟩ | ⟨g', off', cap', he, hnc, _⟩
    · simp at h0
    · simp at he
      omega
  have p1 := h2.part 0 M.length M.length (by omega) (by omega) (by omega)
  rw [Nat.zero_mul, Nat.add_zero, List.drop_zero, Nat.mul_one, List.take_of_length_le (by simp [sv_len])] at p1
  exact ⟨p1, hc⟩
/-- More texts. -/
theorem NetAt.more {a a2 : Option Addr} {c c' c2 n2 m : Nat} {L2 D : List (List UInt8)} (h : NetAt w wr q L2 M (.slice a M.length c)) (hcc : c' ≤ c)
    (k1 : Sl w' 9 1 (.slice a2 n2 c2) n2 (sv M ++ sv D)) (k2 : Touch (own (.slice a m c')) wr w') (k3 : ∀ r ∈ own (.slice a2 n2 c2), r ∈ own (.slice a m c') ∨ wr.heap.size ≤ r) :
    NetAt w w' q L2 (M ++ D) (.slice a2 n2 c2) := by
  have hn : n2 = (M ++ D).length := by
    have := k1.1
    simp [sv_len] at this
    simp
    omega
  rw [← sv_append] at k1
  have ho : ∀ r ∈ own (.slice a m c'), r ∈ own (.slice a M.length c) := by
    cases a with
    | none => simp
    | some a => exact own_lt hcc
  exact NetAt.turned h (by rw [hn] at k1 ⊢; exact k1) (k2.mono (fun j hj => .inl (ho j hj))) (fun r hr => (k3 r hr).imp (ho r) id)
theorem NetB.keep {v bv : Value} {n : Nat} (h : NetB w wr q L M v bv n) (hk : Touch [] wr w') : NetB w w' q L M v bv n := by
  obtain ⟨K, F, ys, hy, h1, h2, h3, h4, h5, h6, h7⟩ := h
  exact ⟨K, F, ys, hy, h1.touch hk (by simp), h2.keep hk, h3.touch hk (by simp), h4, h5, h6, h7.trans hk (by simp)⟩
theorem NetB.more {a a2 : Option Addr} {c c2 n2 n : Nat} {L2 D : List (List UInt8)} {bv : Value} (h : NetB w wr q L2 M (.slice a M.length c) bv n)
    (k1 : Sl w' 9 1 (.slice a2 n2 c2) n2 (sv M ++ sv D)) (k2 : Touch (own (.slice a M.length c)) wr w') (k3 : ∀ r ∈ own (.slice a2 n2 c2), r ∈ own (.slice a M.length c) ∨ wr.heap.size ≤ r) :
    NetB w w' q L2 (M ++ D) (.slice a2 n2 c2) bv n := by
  obtain ⟨K, F, ys, hy, h1, h2, h3, h4, h5, h6, h7⟩ := h
  have hn : n2 = (M ++ D).length := by
    have := k1.1
    simp [sv_len] at this
    simp
    omega
  rw [← sv_append] at k1
  have hs := h7.size
  have hlt := h2.lt
  refine ⟨K, F, ys, hy, h1.touch k2 (fun g hg => (h6 g hg).2.2), h2.touch k2 (fun g hg hm => (h5 g hm).2 hg), by rw [← hn]; exact k1, h4, fun g hg => ?_, fun g hg => ⟨(h6 g hg).1, (h6 g hg).2.1, fun hm => ?_⟩, h7.trans k2 (fun g hg => .inr (h5 g hg).1)⟩
  · rcases k3 g hg with h | h
    · exact h5 g h
    · exact ⟨by omega, fun hm => by have := hlt g hm; omega⟩
  · have e1 := h1.lt g hg
    rcases k3 g hm with h | h
    · exact (h6 g hg).2.2 h
    · omega
theorem byte_cb (n : Int) (h : 0 ≤ n ∧ n ≤ 255) : cb [UInt8.ofNat n.toNat] = [.int .u8 n] := by
  simp [cb]
  omega
theorem net_lenN {v : Value} {n : Nat} (h : NetAt w wr q L M v) (hn : L.length = n) : Calls Try.prog 16 #[.pointer (some ⟨q, 0, none⟩)] wr fun e w' => e = .returned (.int .i64 n) ∧ wr = w' := by
  subst hn
  exact net_len h
end
theorem info9 : (Try.prog.info? 9).map (fun i => (i.zero, i.size, i.bytes)) = some (some (.string ByteArray.empty), 1, 16) := by kernel_rfl
theorem lens_app {L : List (List UInt8)} {b : List UInt8} (h : ∀ x ∈ L, x.length ≤ 50) (hb : b.length ≤ 50) : ∀ x ∈ L ++ [b], x.length ≤ 50 := by
  intro x hx
  rcases List.mem_append.1 hx with hx | hx
  · exact h x hx
  · simp at hx
    subst hx
    exact hb
theorem lens_erase {L : List (List UInt8)} (h : ∀ x ∈ L, x.length ≤ 50) (i : Nat) : ∀ x ∈ L.eraseIdx i, x.length ≤ 50 := fun x hx => h x (List.mem_of_mem_eraseIdx hx)
theorem lens_get {L : List (List UInt8)} (h : ∀ x ∈ L, x.length ≤ 50) (i : Nat) (hi : i < L.length) : (L.getD i []).length ≤ 50 := h _ (by rw [List.getD_eq_getElem?_getD, List.getElem?_eq_getElem hi]; exact List.getElem_mem _)
end Go.Proofs.Ytaklbobmbobcaaa
