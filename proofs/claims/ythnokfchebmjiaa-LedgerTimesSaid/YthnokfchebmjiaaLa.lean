/- A law's own ledger, what was handed out beside it; Nums. Conditions: none of their own. -/
import Derived.Test.YthnokfchebmjiaaAl
namespace Go.Proofs.Ythnokfchebmjiaa
open Go.RowKit

theorem rd_us {w w' : World} {v : Value} {b : List Nat} {ks : List Nat} (h : Rd w 1 v b.length (us b)) (hk : Touch ks w w') (hn : 0 < b.length → ∀ g ∈ own v, g ∉ ks) : Rd w' 1 v b.length (us b) := by
  by_cases hb : 0 < b.length
  · exact h.touch hk (hn hb)
  · obtain rfl : b = [] := List.eq_nil_of_length_eq_zero (by omega)
    obtain ⟨a, c, rfl⟩ := h.form
    exact ⟨rfl, .inl ⟨_, _, rfl, rfl⟩⟩
theorem rd_usl {w : World} {v : Value} {b : List Nat} (h : Rd w 1 v b.length (us b)) (hb : 0 < b.length) : ∀ g ∈ own v, g < w.heap.size := by
  intro g hg
  rcases h.2 with ⟨a, c, rfl, h0⟩ | ⟨k, off, cap, rfl, _, h1, _⟩
  · omega
  · rw [(mem_own hg).1]
    exact h1 hb
def AtL (w wk : World) (p : Nat) (σ : Ldg) (D : List (Value × List Nat)) : Prop :=
  ∃ F, IsL wk p F σ ∧ (∀ g ∈ F, w.heap.size ≤ g) ∧ Touch [] w wk ∧ ∀ d ∈ D, Rd wk 1 d.1 d.2.length (us d.2) ∧ (0 < d.2.length → ∀ g ∈ own d.1, g ∉ F ∧ g < wk.heap.size)
section
variable {w wk w' : World} {p : Nat} {σ τ : Ldg} {D : List (Value × List Nat)}
theorem AtL.keep (h : AtL w wk p σ D) (hk : Touch [] wk w') : AtL w w' p σ D := by
  obtain ⟨F, h1, h2, h3, h4⟩ := h
  exact ⟨F, h1.keep hk, h2, h3.trans hk (by simp), fun d hd => ⟨(h4 d hd).1.touch hk (by simp), fun h0 g hg => ⟨((h4 d hd).2 h0 g hg).1, Nat.lt_of_lt_of_le ((h4 d hd).2 h0 g hg).2 hk.size⟩⟩⟩
theorem AtL.touch (h : AtL w wk p σ D) : Touch [] w wk := by
  obtain ⟨F, h1, h2, h3, h4⟩ := h
  exact h3
theorem AtL.ok (h : AtL w wk p σ D) : σ.Ok := by
  obtain ⟨F, h1, _⟩ := h
  exact h1.ok
theorem AtL.drop (h : AtL w wk p σ D) : AtL w wk p σ [] := by
  obtain ⟨F, h1, h2, h3, h4⟩ := h
  exact ⟨F, h1, h2, h3, by simp⟩
theorem AtL.rd {d : Value × List Nat} (h : AtL w wk p σ D) (hd : d ∈ D) : Rd wk 1 d.1 d.2.length (us d.2) := by
  obtain ⟨F, h1, h2, h3, h4⟩ := h
  exact (h4 d hd).1
theorem AtL.step {F : List Nat} (h2 : ∀ g ∈ F, w.heap.size ≤ g) (h3 : Touch [] w wk) (h4 : ∀ d ∈ D, Rd wk 1 d.1 d.2.length (us d.2) ∧ (0 < d.2.length → ∀ g ∈ own d.1, g ∉ F ∧ g < wk.heap.size)) (h : StepL wk p F τ w') : AtL w w' p τ D := by
  obtain ⟨F', k1, k2, k3⟩ := h
  have hs := h3.size
  refine ⟨F', k1, fun g hg => (k3 g hg).elim (h2 g) (fun h => by omega), h3.trans k2 (fun g hg => .inr (h2 g hg)), fun d hd => ⟨rd_us (h4 d hd).1 k2 (fun h0 g hg => ((h4 d hd).2 h0 g hg).1), fun h0 g hg => ?_⟩⟩
  obtain ⟨a, b⟩ := (h4 d hd).2 h0 g hg
  exact ⟨fun hm => (k3 g hm).elim a (fun h => by omega), Nat.lt_of_lt_of_le b k2.size⟩
theorem StepK.l {F : List Nat} (h : StepK wk p F τ w') : StepL wk p F τ w' := by
  obtain ⟨F', k1, k2, k3⟩ := h
  exact ⟨F', k1, k2, fun g hg => .inl (k3 g hg)⟩
theorem at_send (h : AtL w wk p σ D) (s : Pkt) (hs : s.Ok) (hw1 : s.when_ ≤ 1099511627776) (hw2 : s.size ≤ 1099511627776) (ht : σ.tot < 100000) :
    Calls Try.prog 10 #[.pointer (some ⟨p, 0, none⟩), pktV s] wk fun e w' => e = .returned (.int .i64 (if sendBad σ s then 33 else 0)) ∧ AtL w w' p (if sendBad σ s then σ else sentS σ s) D := by
  obtain ⟨F, h1, h2, h3, h4⟩ := h
  refine (send_any wk p F σ s h1 hs hw1 hw2 ht).mono ?_
  rintro e w' ⟨rfl, k⟩
  exact ⟨rfl, AtL.step h2 h3 h4 k⟩
theorem at_flight (h : AtL w wk p σ D) : Calls Try.prog 17 #[.pointer (some ⟨p, 0, none⟩)] wk fun e w' => e = .returned (.int .i64 (flight σ.opens : Int)) ∧ AtL w w' p σ D := by
  have hh := h
  obtain ⟨F, h1, h2, h3, h4⟩ := h
  refine (flight_any wk p F σ h1).mono ?_
  rintro e w' ⟨rfl, k⟩
  exact ⟨rfl, hh.keep k⟩
theorem at_rtt (h : AtL w wk p σ D) : Calls Try.prog 16 #[.pointer (some ⟨p, 0, none⟩)] wk fun e w' => e = .returned (.tuple #[.int .u64 (σ.smooth : Int), .int .u64 (σ.varied : Int), .int .u64 (σ.least : Int)]) ∧ AtL w w' p σ D := by
  have hh := h
  obtain ⟨F, h1, h2, h3, h4⟩ := h
  refine (rtt_any wk p F σ h1).mono ?_
  rintro e w' ⟨rfl, k⟩
  exact ⟨rfl, hh.keep k⟩
theorem at_largest (h : AtL w wk p σ D) : Calls Try.prog 18 #[.pointer (some ⟨p, 0, none⟩)] wk fun e w' => e = .returned (.int .i64 σ.largest) ∧ AtL w w' p σ D := by
  have hh := h
  obtain ⟨F, h1, h2, h3, h4⟩ := h
  refine (largest_any wk p F σ h1).mono ?_
  rintro e w' ⟨rfl, rfl⟩
  exact ⟨rfl, hh⟩
theorem at_open (h : AtL w wk p σ D) : Calls Try.prog 19 #[.pointer (some ⟨p, 0, none⟩)] wk fun e w' => ∃ v, e = .returned v ∧ AtL w w' p σ ((v, pns σ.opens) :: D) ∧ Rd w' 1 v (pns σ.opens).length (us (pns σ.opens)) := by
  have hh := h
  obtain ⟨F, h1, h2, h3, h4⟩ := h
  refine (open_any wk p F σ h1).mono ?_
  rintro e w' ⟨v, rfl, k1, k2, k3⟩
  rw [← pns_len] at k1
  obtain ⟨F', g1, g2, g3, g4⟩ := hh.keep k2
  have hs := k2.size
  refine ⟨v, rfl, ⟨F, h1.keep k2, h2, h3.trans k2 (by simp), fun d hd => ?_⟩, k1⟩
  rcases List.mem_cons.1 hd with rfl | hd
  · exact ⟨k1, fun h0 g hg => ⟨fun hm => by have := h1.lt g hm; have := k3 g hg; omega, rd_usl k1 h0 g hg⟩⟩
  · exact ⟨(h4 d hd).1.touch k2 (by simp), fun h0 g hg => ⟨((h4 d hd).2 h0 g hg).1, by have := ((h4 d hd).2 h0 g hg).2; omega⟩⟩
theorem at_tick (h : AtL w wk p σ D) (now : Nat) (hn : now < 18446744073709551616) :
    Calls Try.prog 20 #[.pointer (some ⟨p, 0, none⟩), .int .u64 (now : Int)] wk fun e w' => ∃ v, e = .returned v ∧ AtL w w' p (lostS σ now) ((v, pns (lostL σ now)) :: D) ∧ Rd w' 1 v (pns (lostL σ now)).length (us (pns (lostL σ now))) := by
  obtain ⟨F, h1, h2, h3, h4⟩ := h
  refine (tick_any wk p F σ now h1 hn).mono ?_
  rintro e w' ⟨v, rfl, k1, ⟨F', g1, g2, g3⟩, k3⟩
  rw [← pns_len] at k1
  refine ⟨v, rfl, ⟨F', g1, fun g hg => h2 g (g3 g hg), h3.trans g2 (fun g hg => .inr (h2 g hg)), fun d hd => ?_⟩, k1.rd⟩
  rcases List.mem_cons.1 hd with rfl | hd
  · exact ⟨k1.rd, fun h0 g hg => ⟨fun hm => by have := h1.lt g (g3 g hm); have := k3 g hg; omega, k1.lt g hg⟩⟩
  · exact ⟨rd_us (h4 d hd).1 g2 (fun h0 g hg => ((h4 d hd).2 h0 g hg).1), fun h0 g hg => ⟨fun hm => ((h4 d hd).2 h0 g hg).1 (g3 g hm), Nat.lt_of_lt_of_le ((h4 d hd).2 h0 g hg).2 g2.size⟩⟩
theorem at_bad (h : AtL w wk p σ D) (hT : Touch [] wk w') (ar : Option Addr) (c : Nat) (L : List Rng) (now delay : Nat) (hr : Rd w' 2 (.slice ar L.length c) L.length (cr L)) (hL : L.length ≤ 100000) (hb : ackBad σ L = true) :
    Calls Try.prog 12 #[.pointer (some ⟨p, 0, none⟩), .slice ar L.length c, .int .u64 (now : Int), .int .u64 (delay : Int)] w' fun e w2 => e = .returned (.tuple #[.slice none 0 0, .slice none 0 0, .int .i64 43]) ∧ AtL w w2 p σ D := by
  have hh := h.keep hT
  obtain ⟨F, h1, h2, h3, h4⟩ := h
  refine (ack_bad w' p F σ ar c L now delay (h1.keep hT) hr hL hb).mono ?_
  rintro e w2 ⟨rfl, k⟩
  exact ⟨rfl, hh.keep k⟩
theorem at_ack (h : AtL w wk p σ D) (hT : Touch [] wk w') (ar : Option Addr) (c : Nat) (L : List Rng) (now delay : Nat) (hr : Rd w' 2 (.slice ar L.length c) L.length (cr L)) (hf : ∀ g ∈ own (.slice ar L.length c), wk.heap.size ≤ g ∧ g < w'.heap.size) (hL : L.length ≤ 100000) (hb : ackBad σ L = false) (hnow : now ≤ 1099511627776) (hdel : delay < 18446744073709551616) :
    Calls Try.prog 12 #[.pointer (some ⟨p, 0, none⟩), .slice ar L.length c, .int .u64 (now : Int), .int .u64 (delay : Int)] w' fun e w2 => ∃ v1 v2, e = .returned (.tuple #[v1, v2, .int .i64 0]) ∧ AtL w w2 p (lostS (ackS σ L now delay) now) ((v1, pns (goneA σ L)) :: (v2, pns (lostL (ackS σ L now delay) now)) :: D) ∧ Sl w2 28 1 v1 (pns (goneA σ L)).length (us (pns (goneA σ L))) ∧ Rd w2 1 v2 (pns (lostL (ackS σ L now delay) now)).length (us (pns (lostL (ackS σ L now delay) now))) ∧ ∀ g ∈ own v1, w'.heap.size ≤ g := by
  obtain ⟨F, h1, h2, h3, h4⟩ := h.keep hT
  have hF : ∀ g ∈ own (.slice ar L.length c), g < w'.heap.size ∧ g ∉ F → True := fun _ _ _ => trivial
  obtain ⟨F0, i1, i2, i3, i4⟩ := h
  refine (ack_good w' p F0 σ ar c L now delay (i1.keep hT) hr (fun g hg => ⟨(hf g hg).2, fun hm => by have := i1.lt g hm; have := (hf g hg).1; omega⟩) hL hb hnow hdel).mono ?_
  rintro e w2 ⟨v1, v2, rfl, k1, k2, ⟨F', g1, g2, g3⟩, k3, k4⟩
  rw [← pns_len] at k1 k2
  have hs := hT.size
  have i3' : Touch [] w w' := i3.trans hT (by simp)
  refine ⟨v1, v2, rfl, ⟨F', g1, fun g hg => i2 g (g3 g hg), i3'.trans g2 (fun g hg => .inr (i2 g hg)), fun d hd => ?_⟩, k1, k2.rd, k3⟩
  have hFl : ∀ g ∈ F', g < w'.heap.size := fun g hm => by have := i1.lt g (g3 g hm); omega
  rcases List.mem_cons.1 hd with rfl | hd
  · exact ⟨k1.rd, fun h0 g hg => ⟨fun hm => by have := hFl g hm; have := k3 g hg; omega, k1.lt g hg⟩⟩
  · rcases List.mem_cons.1 hd with rfl | hd
    · exact ⟨k2.rd, fun h0 g hg => ⟨fun hm => by have := hFl g hm; have := (k4 g hg).1; omega, k2.lt g hg⟩⟩
    · have hd1 := (i4 d hd).1.touch hT (by simp)
      exact ⟨rd_us hd1 g2 (fun h0 g hg => ((i4 d hd).2 h0 g hg).1), fun h0 g hg => ⟨fun hm => ((i4 d hd).2 h0 g hg).1 (g3 g hm), by have := ((i4 d hd).2 h0 g hg).2; have := g2.size; omega⟩⟩
end
theorem at_new (w wk : World) (hT : Touch [] w wk) : Calls Try.prog 8 #[] wk fun e w' => ∃ p, e = .returned (.pointer (some ⟨p, 0, none⟩)) ∧ AtL w w' p led0 [] := by
  refine (newL_any wk).mono ?_
  rintro e w' ⟨p, F, rfl, k1, k2, k3⟩
  have := hT.size
  exact ⟨p, rfl, F, k1, fun g hg => by have := k3 g hg; omega, hT.trans k2 (by simp), fun d hd => by simp at hd⟩

theorem nums_any (w : World) (a b : Option Addr) (n m c1 c2 : Nat) (xs ys : List Nat) (h1 : Rd w 1 (.slice a n c1) n (us xs)) (h2 : Rd w 1 (.slice b m c2) m (us ys)) (e1 : xs.length = n) (e2 : ys.length = m) (hn : n ≤ 1000000) :
    Calls Try.prog 14 #[.slice a n c1, .slice b m c2] w fun e w' => e = .returned (.bool (decide (xs = ys))) ∧ Touch [] w w' := by
  have H1 := Lib.hid h1
  have H2 := Lib.hid h2
  have E1 := Lib.hid e1
  have E2 := Lib.hid e2
  clear h1 h2 e1 e2
  by_cases hnm : n = m
  · subst hnm
    go_enter Try.func14, Try.ntmps14
    go_wp2_with fail
    go_loopw [5] (fun i wr => ∃ k : Nat, k ≤ n ∧ i = .int .i64 (k : Int) ∧ Hid (xs.take k = ys.take k) ∧ Hid (Touch [] w wr)) (fun i _ => n - (intOf i).toNat)
    case atStart => exact ⟨0, by omega, rfl, Lib.hid (by simp), Lib.hid (Touch.refl _ _)⟩
    case round =>
      obtain ⟨k, hk, rfl, HE, HT⟩ := hrel
      by_cases hlt : k < n
      · have hlt' : (k : Int) < (n : Int) := by omega
        obtain ⟨x, hx⟩ : ∃ x, xs[k]? = some x := ⟨_, List.getElem?_eq_getElem (by rw [E1.out]; exact hlt)⟩
        obtain ⟨y, hy⟩ : ∃ y, ys[k]? = some y := ⟨_, List.getElem?_eq_getElem (by rw [E2.out]; exact hlt)⟩
        obtain ⟨g, o, rfl, c1, l1⟩ := rd_oneAt (H1.out.touch HT.out (by simp)) E1.out k x hx
        obtain ⟨g2, o2, rfl, c2, l2⟩ := rd_oneAt (H2.out.touch HT.out (by simp)) E2.out k y hy
        have HX := Lib.hid hx
        have HY := Lib.hid hy
        clear hx hy
        by_cases hxy : x = y
        · subst hxy
          go_wp2_with fail
          go_quiet (fail)
          go_wp2_with fail
          go_roundw
          case rel => exact ⟨k + 1, by omega, by go_num, Lib.hid (by rw [List.take_add_one, List.take_add_one, HE.out, HX.out, HY.out]), Lib.hid (HT.out.drewN _)⟩
          case measure => simp [intOf]; omega
        · have hxy1 : ((x : Int) != (y : Int)) = true := by simp; omega
          have HN : Hid (xs ≠ ys) := Lib.hid (fun e => by have := HX.out; rw [e, HY.out] at this; exact hxy (Option.some.inj this).symm)
          go_wp2_with fail
          go_quiet (fail)
          go_wp2_with fail
          go_ret
          exact ⟨by rw [decide_eq_false HN.out]; rfl, HT.out.drewN _⟩
      · obtain rfl : k = n := by omega
        have HEQ : Hid (xs = ys) := Lib.hid (by
          have := HE.out
          rw [List.take_of_length_le (by rw [E1.out]; exact Nat.le_refl _), List.take_of_length_le (by rw [E2.out]; exact Nat.le_refl _)] at this
          exact this)
        go_wp2_with fail
        go_ret
        exact ⟨by rw [decide_eq_true HEQ.out]; rfl, HT.out⟩
  · have hne : ((n : Int) != (m : Int)) = true := by simp; omega
    have HN : Hid (xs ≠ ys) := Lib.hid (fun e => hnm (by rw [← E1.out, ← E2.out, e]))
    go_enter Try.func14, Try.ntmps14
    go_wp2_with fail
    go_ret
    exact ⟨by rw [decide_eq_false HN.out]; rfl, Touch.refl _ _⟩
end Go.Proofs.Ythnokfchebmjiaa
