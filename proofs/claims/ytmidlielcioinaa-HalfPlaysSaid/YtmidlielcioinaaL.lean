/- A law's own half, what was handed out beside it; the walk of the example. Conditions: none. -/
import Derived.Test.YtmidlielcioinaaF
import Derived.Test.YtmidlielcioinaaJ
import Derived.Laws.BytesArg
import Derived.Lib.SlBytesConst
namespace Go.Proofs.Ytmidlielcioinaa
open Go.RowKit

theorem conv_str (w : World) (x : Value) (n : Nat) (b : List Nat) (hb : b.length = n) (hx : Rd w 1 x n (bs b)) : (convert 22 9 x).run Try.prog w = .ok (.string (strOfNums (b.map fun k : Nat => (k : Int)))) w := by
  subst hb
  rcases hx.cases with ⟨a, c, rfl, h0, _⟩ | ⟨g, off, cap, rfl, _, _, hc⟩
  · obtain rfl : b = [] := List.eq_nil_of_length_eq_zero h0
    cases a with
    | none => exact run_convert_bytes_nil w 22 5 Try.underlying22 Try.underlying5 0 c 9 Try.underlying9
    | some a => exact run_convert_bytes_back w 22 9 5 a c [] Try.underlying22 Try.underlying5 Try.underlying9 (fun j hj => by simp at hj)
  · refine run_convert_bytes_arg w 22 5 Try.underlying22 Try.underlying5 g off b.length cap (b.map fun k : Nat => (k : Int)) (by simp) (fun i hi => ?_) 9 Try.underlying9
    rw [hc i (by omega)]
    simp [bs, hi]
theorem new_rd (w : World) (t : TypeId) (cs : List Value) (c : Nat) (fr : Nat × Nat) (hc : cs.length ≤ c) : Rd (w.alloc (.cells cs.toArray t fr)) 1 (.slice (some ⟨w.heap.size, 0, none⟩) cs.length c) cs.length cs := by
  obtain ⟨lo, hi⟩ := fr
  refine ⟨by simp, .inr ⟨_, 0, c, rfl, hc, fun _ => by simp, fun j hj => ?_⟩⟩
  rw [World.cell?_alloc_mark]
  simp

theorem rd_touch {w w' : World} {v : Value} {b : List Nat} {ks : List Nat} (h : Rd w 1 v b.length (bs b)) (hk : Touch ks w w') (hn : 0 < b.length → ∀ g ∈ own v, g ∉ ks) : Rd w' 1 v b.length (bs b) := by
  by_cases hb : 0 < b.length
  · exact h.touch hk (hn hb)
  · obtain rfl : b = [] := List.eq_nil_of_length_eq_zero (by omega)
    obtain ⟨a, c, rfl⟩ := h.form
    exact ⟨rfl, .inl ⟨_, _, rfl, rfl⟩⟩
theorem rd_lt {w : World} {v : Value} {b : List Nat} (h : Rd w 1 v b.length (bs b)) (hb : 0 < b.length) : ∀ g ∈ own v, g < w.heap.size := by
  intro g hg
  rcases h.2 with ⟨a, c, rfl, h0⟩ | ⟨k, off, cap, rfl, _, h1, _⟩
  · omega
  · rw [(mem_own hg).1]
    exact h1 hb
/-- A half that a law made after world w, and the byte slices D that were handed out. -/
def AtSnd (w wk : World) (p : Nat) (σ : Snd) (D : List (Value × List Nat)) : Prop :=
  ∃ F, IsSnd wk p F σ ∧ (∀ g ∈ F, w.heap.size ≤ g) ∧ Touch [] w wk ∧ ∀ d ∈ D, Rd wk 1 d.1 d.2.length (bs d.2) ∧ (0 < d.2.length → ∀ g ∈ own d.1, g ∉ F ∧ g < wk.heap.size)
section
variable {w wk w' : World} {p : Nat} {σ τ : Snd} {D : List (Value × List Nat)}
theorem AtSnd.keep (h : AtSnd w wk p σ D) (hk : Touch [] wk w') : AtSnd w w' p σ D := by
  obtain ⟨F, h1, h2, h3, h4⟩ := h
  exact ⟨F, h1.keep hk, h2, h3.trans hk (by simp), fun d hd => ⟨(h4 d hd).1.touch hk (by simp), fun h0 g hg => ⟨((h4 d hd).2 h0 g hg).1, Nat.lt_of_lt_of_le ((h4 d hd).2 h0 g hg).2 hk.size⟩⟩⟩
theorem AtSnd.touch (h : AtSnd w wk p σ D) : Touch [] w wk := by
  obtain ⟨F, h1, h2, h3, h4⟩ := h
  exact h3
theorem AtSnd.step {F : List Nat} (h2 : ∀ g ∈ F, w.heap.size ≤ g) (h3 : Touch [] w wk) (h4 : ∀ d ∈ D, Rd wk 1 d.1 d.2.length (bs d.2) ∧ (0 < d.2.length → ∀ g ∈ own d.1, g ∉ F ∧ g < wk.heap.size)) (h : Step wk p F τ w') : AtSnd w w' p τ D := by
  obtain ⟨F', k1, k2, k3⟩ := h
  have hs := h3.size
  refine ⟨F', k1, fun g hg => (k3 g hg).elim (h2 g) (fun h => by omega), h3.trans k2 (fun g hg => .inr (h2 g hg)), fun d hd => ⟨rd_touch (h4 d hd).1 k2 (fun h0 g hg => ((h4 d hd).2 h0 g hg).1), fun h0 g hg => ?_⟩⟩
  obtain ⟨a, b⟩ := (h4 d hd).2 h0 g hg
  exact ⟨fun hm => (k3 g hm).elim a (fun h => by omega), Nat.lt_of_lt_of_le b k2.size⟩
end
theorem at_new (w wk : World) (n : Nat) (hT : Touch [] w wk) : Calls Try.prog 9 #[.int .u64 (n : Int)] wk fun e w' => ∃ p, e = .returned (.pointer (some ⟨p, 0, none⟩)) ∧ AtSnd w w' p (snd0 n) [] := by
  refine (newSend_any wk n).mono ?_
  rintro e w' ⟨p, F, rfl, k1, k2, k3⟩
  have := hT.size
  exact ⟨p, rfl, F, k1, fun g hg => by have := k3 g hg; omega, hT.trans k2 (by simp), fun d hd => by simp at hd⟩
section
variable {w wk : World} {p : Nat} {σ : Snd} {D : List (Value × List Nat)}
theorem at_write (h : AtSnd w wk p σ D) (v : Value) (n : Nat) (bb : List Nat) (fin : Bool) (hx : Rd wk 1 v n (bs bb)) (hb : bb.length = n) (hl : σ.b.length + n ≤ 50000) :
    Calls Try.prog 10 #[.pointer (some ⟨p, 0, none⟩), v, .bool fin] wk fun e w' => e = .returned (.bool (!(σ.ended || σ.reset))) ∧ AtSnd w w' p (writeS σ bb fin) D := by
  obtain ⟨F, h1, h2, h3, h4⟩ := h
  refine (write_any wk p F σ v n bb fin h1 hx hb hl).mono ?_
  rintro e w' ⟨rfl, k⟩
  exact ⟨rfl, AtSnd.step h2 h3 h4 k⟩
theorem at_next (h : AtSnd w wk p σ D) (n : Int) (hn : n ≤ 9223372036854775807) :
    Calls Try.prog 11 #[.pointer (some ⟨p, 0, none⟩), .int .i64 n] wk fun e w' => ∃ v, e = .returned (.tuple #[.int .u64 ((nextS σ n.toNat).1.1 : Int), v, .bool (nextS σ n.toNat).1.2.2.1, .bool (nextS σ n.toNat).1.2.2.2]) ∧ Rd w' 1 v (nextS σ n.toNat).1.2.1.length (bs (nextS σ n.toNat).1.2.1) ∧ AtSnd w w' p (nextS σ n.toNat).2 ((v, (nextS σ n.toNat).1.2.1) :: D) := by
  obtain ⟨F, h1, h2, h3, h4⟩ := h
  refine (next_any wk p F σ n h1 hn).mono ?_
  rintro e w' ⟨v, rfl, k1, ⟨F', g1, g2, g3, g4⟩, k3⟩
  have hs := h3.size
  refine ⟨v, rfl, k1, F', g1, fun g hg => (g3 g hg).elim (h2 g) (fun h => by omega), h3.trans g2 (fun g hg => .inr (h2 g hg)), fun d hd => ?_⟩
  rcases List.mem_cons.1 hd with rfl | hd
  · exact ⟨k1, fun h0 g hg => ⟨g4 g hg, rd_lt k1 h0 g hg⟩⟩
  · refine ⟨rd_touch (h4 d hd).1 g2 (fun h0 g hg => ((h4 d hd).2 h0 g hg).1), fun h0 g hg => ?_⟩
    obtain ⟨a, b⟩ := (h4 d hd).2 h0 g hg
    exact ⟨fun hm => (g3 g hm).elim a (fun h => by omega), Nat.lt_of_lt_of_le b g2.size⟩
theorem at_lost (h : AtSnd w wk p σ D) (off : Nat) (n : Int) (fin : Bool) (hn : n ≤ 9223372036854775807) (ho : off < 18446744073709551616) :
    Calls Try.prog 12 #[.pointer (some ⟨p, 0, none⟩), .int .u64 (off : Int), .int .i64 n, .bool fin] wk fun e w' => e = .returned (.tuple #[]) ∧ AtSnd w w' p (lostS σ off n fin) D := by
  obtain ⟨F, h1, h2, h3, h4⟩ := h
  refine (lost_any wk p F σ off n fin h1 hn ho).mono ?_
  rintro e w' ⟨rfl, k⟩
  exact ⟨rfl, AtSnd.step h2 h3 h4 k⟩
theorem at_acked (h : AtSnd w wk p σ D) (off : Nat) (n : Int) (fin : Bool) (hn : n ≤ 9223372036854775807) (ho : off < 18446744073709551616) :
    Calls Try.prog 13 #[.pointer (some ⟨p, 0, none⟩), .int .u64 (off : Int), .int .i64 n, .bool fin] wk fun e w' => e = .returned (.tuple #[]) ∧ AtSnd w w' p (ackS σ off n fin) D := by
  obtain ⟨F, h1, h2, h3, h4⟩ := h
  refine (acked_any wk p F σ off n fin h1 hn ho).mono ?_
  rintro e w' ⟨rfl, k⟩
  exact ⟨rfl, AtSnd.step h2 h3 h4 k⟩
theorem at_state (h : AtSnd w wk p σ D) : Calls Try.prog 14 #[.pointer (some ⟨p, 0, none⟩)] wk fun e w' => e = .returned (stateV σ) ∧ AtSnd w w' p σ D := by
  have hh := h
  obtain ⟨F, h1, h2, h3, h4⟩ := h
  refine (state_any wk p F σ h1).mono ?_
  rintro e w' ⟨rfl, k⟩
  exact ⟨rfl, hh.keep k⟩
end

theorem ex_new : snd0 100 = ⟨[], false, 0, 0, [], [], 100, false⟩ := rfl
theorem ex_write : writeS ⟨[], false, 0, 0, [], [], 100, false⟩ [97, 98] true = ⟨[97, 98], true, 0, 0, [], [], 100, false⟩ := rfl
theorem ex_next : nextS ⟨[97, 98], true, 0, 0, [], [], 100, false⟩ (9 : Int).toNat = ((0, [97, 98], true, true), ⟨[97, 98], true, 1, 2, [], [], 100, false⟩) := rfl
theorem ex_lost : lostS ⟨[97, 98], true, 1, 2, [], [], 100, false⟩ 0 1 false = ⟨[97, 98], true, 1, 2, [(0, 0)], [], 100, false⟩ := by rfl
theorem ex_again : nextS ⟨[97, 98], true, 1, 2, [(0, 0)], [], 100, false⟩ (9 : Int).toNat = ((0, [97], false, true), ⟨[97, 98], true, 1, 2, [], [], 100, false⟩) := rfl
theorem ex_acked : ackS ⟨[97, 98], true, 1, 2, [], [], 100, false⟩ 0 2 true = ⟨[97, 98], true, 3, 2, [], [(0, 1)], 100, false⟩ := by rfl
theorem ex_ready : stateV ⟨[97, 98], true, 0, 0, [], [], 100, false⟩ = vReady := by rfl
theorem ex_recvd : stateV ⟨[97, 98], true, 3, 2, [], [(0, 1)], 100, false⟩ = vRecvd := by rfl
theorem ex_ab : strOfNums (([97, 98] : List Nat).map fun k : Nat => (k : Int)) = ⟨#[97, 98]⟩ := by rfl
theorem ex_a : strOfNums (([97] : List Nat).map fun k : Nat => (k : Int)) = ⟨#[97]⟩ := by rfl

set_option maxHeartbeats 2000000 in
theorem known_any (w : World) : Calls Try.prog 8 #[] w fun e w' => e = .returned (.bool true) ∧ Touch [] w w' := by
  have kc := fun (w : World) (C : Array Value) (n c : Nat) => Lib.run_convert_bytes_const (P := Try.prog) w 22 5 C n c Try.underlying22 Try.underlying5
  go_enter Try.func8, Try.ntmps8
  go_wp2_with fail
  refine (at_new w _ 100 (Touch.refl _ _)).mono ?_
  rw [ex_new]
  rintro e w1 ⟨p, rfl, h⟩
  have A1 := Lib.hid h
  clear h
  go_wp2_with fail
  refine (at_write (A1.out.keep ((Touch.refl _ _).alloc _)) _ 2 [97, 98] true (new_rd w1 5 (bs [97, 98]) 2 (2, 3) (Nat.le_refl _)) rfl (by decide)).mono ?_
  rw [ex_write]
  rintro e w2 ⟨rfl, h⟩
  have A2 := Lib.hid h
  clear h
  go_wp2_with fail
  refine (at_state A2.out).mono ?_
  rw [ex_ready]
  rintro e w3 ⟨rfl, h⟩
  have A3 := Lib.hid h
  clear h
  unfold vReady
  go_wp2_with fail
  refine (at_next A3.out 9 (by decide)).mono ?_
  rw [ex_next]
  rintro e w4 ⟨b1, rfl, _, h⟩
  have A4 := Lib.hid h
  clear h
  go_wp2_with fail
  refine (show Calls Try.prog 12 #[.pointer (some ⟨p, 0, none⟩), .int .u64 0, .int .i64 1, .bool false] w4 _ from at_lost A4.out 0 1 false (by decide) (by decide)).mono ?_
  rw [ex_lost]
  rintro e w5 ⟨rfl, h⟩
  have A5 := Lib.hid h
  clear h
  go_wp2_with fail
  refine (at_next A5.out 9 (by decide)).mono ?_
  rw [ex_again]
  rintro e w6 ⟨b2, rfl, _, h⟩
  have A6 := Lib.hid h
  clear h
  go_wp2_with fail
  refine (show Calls Try.prog 13 #[.pointer (some ⟨p, 0, none⟩), .int .u64 0, .int .i64 2, .bool true] w6 _ from at_acked A6.out 0 2 true (by decide) (by decide)).mono ?_
  rw [ex_acked]
  rintro e w7 ⟨rfl, h⟩
  have A7 := Lib.hid h
  have kA : (convert 22 9 b1).run Try.prog w7 = .ok (.string ⟨#[97, 98]⟩) w7 := by
    obtain ⟨F, _, _, _, h4⟩ := h
    rw [← ex_ab]
    exact conv_str _ _ 2 [97, 98] rfl (h4 (b1, [97, 98]) (by simp)).1
  have kB : (convert 22 9 b2).run Try.prog w7 = .ok (.string ⟨#[97]⟩) w7 := by
    obtain ⟨F, _, _, _, h4⟩ := h
    rw [← ex_a]
    exact conv_str _ _ 1 [97] rfl (h4 (b2, [97]) (by simp)).1
  clear h
  go_wp2_with fail
  refine (show Calls Try.prog 16 #[.int .u64 7] w7 _ from kind_any w7 7 (by decide)).mono ?_
  rintro e w8 ⟨rfl, rfl⟩
  rw [show decide (7 % 2 = 1) = true from rfl]
  go_wp2_with fail
  refine (at_state A7.out).mono ?_
  rw [ex_recvd]
  rintro e w9 ⟨rfl, h⟩
  have A9 := Lib.hid h
  clear h
  unfold vRecvd
  go_wp2_with fail
  refine (show Calls Try.prog 15 #[.int .u64 2, .bool false, .bool false] w9 _ from nth_any w9 2 false false).mono ?_
  rw [show nthV 2 false false = 8 from rfl]
  rintro e w10 ⟨rfl, rfl⟩
  go_wp2_with fail
  go_ret
  exact ⟨rfl, A9.out.touch⟩
end Go.Proofs.Ytmidlielcioinaa
