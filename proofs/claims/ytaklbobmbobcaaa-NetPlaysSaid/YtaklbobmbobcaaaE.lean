/- The contract of a net's Push. Conditions: what is pushed can be read, lies outside the net's own blocks, and is not beyond 2^40. -/
import Derived.Test.YtaklbobmbobcaaaD
import Derived.Deep.AppendLies
namespace Go.Proofs.Ytaklbobmbobcaaa
open Go.RowKit

def Grow (A B : List Nat) (w : World) : Prop := ∀ g ∈ B, g ∈ A ∨ w.heap.size ≤ g
theorem Grow.refl (A : List Nat) (w : World) : Grow A A w := fun _ h => .inl h
theorem Grow.trans {A B C : List Nat} {w w' : World} (h : Grow A B w) (k : Grow B C w') (hs : w.heap.size ≤ w'.heap.size) : Grow A C w := fun g hg =>
  (k g hg).elim (fun h1 => h g h1) (fun h1 => .inr (Nat.le_trans hs h1))

/-- One datagram more. -/
theorem net_put {w w1 w2 : World} {q : Nat} {v : Value} {its : List (Value × List UInt8)} {a a2 : Option Addr} {c c2 : Nat} {b : List UInt8} {o : Obj}
    (h1 : IsBlk w q [v] 47) (h3 : q ∉ own v) (h2 : Sl w 26 1 v its.length (its.map (·.1))) (h4 : ∀ x ∈ its, Sl w 5 1 x.1 x.2.length (cb x.2) ∧ ∀ g ∈ own x.1, g ∉ q :: own v)
    (g1 : Sl w1 5 1 (.slice a b.length c) b.length (cb b)) (g2 : Touch [] w w1) (g3 : ∀ g ∈ own (.slice a b.length c), w.heap.size ≤ g)
    (k1 : Sl w2 26 1 (.slice a2 (its.length + 1) c2) (its.length + 1) (its.map (·.1) ++ [.slice a b.length c])) (k2 : Touch (own v) (w1.alloc o) w2) (k3 : ∀ g ∈ own (.slice a2 (its.length + 1) c2), g ∈ own v ∨ (w1.alloc o).heap.size ≤ g) :
    ∃ K' F', IsNet (w2.setCell ⟨q, 0, none⟩ (.slice a2 (its.length + 1) c2)) q K' F' (its.map (·.2) ++ [b]) ∧ Touch (q :: own v) w (w2.setCell ⟨q, 0, none⟩ (.slice a2 (its.length + 1) c2)) ∧ Grow (q :: own v) K' w ∧ Grow (q :: own v ++ its.flatMap (fun x => own x.1)) F' w := by
  have hq := h1.lt
  have hs1 := g2.size
  have hT1 : Touch (own v) w w2 := ((g2.mono (by simp)).alloc o).trans k2 (fun j hj => .inl hj)
  have hT2 : Touch [q] w2 (w2.setCell ⟨q, 0, none⟩ (.slice a2 (its.length + 1) c2)) := (Touch.refl [q] _).set (p := ⟨q, 0, none⟩) (.inl (by simp)) _
  have hT : Touch (q :: own v) w (w2.setCell ⟨q, 0, none⟩ (.slice a2 (its.length + 1) c2)) := (hT1.mono (fun j hj => .inl (by simp [hj]))).trans hT2 (by simp)
  have hlt := h2.lt
  have hlt1 := g1.lt
  simp only [World.size_alloc] at k3
  have hq2 : q ∉ own (.slice a2 (its.length + 1) c2) := fun h => (k3 q h).elim h3 (fun h => by omega)
  have hgrow : Grow (q :: own v) (q :: own (.slice a2 (its.length + 1) c2)) w := fun g hg => by
    rcases List.mem_cons.1 hg with rfl | hg
    · exact .inl (by simp)
    · exact (k3 g hg).imp (List.mem_cons_of_mem _) (fun h => by omega)
  have hb0 : ∀ g ∈ own (.slice a b.length c), g ∉ q :: own v := fun g hg hm => by
    have e1 := g3 g hg
    rcases List.mem_cons.1 hm with rfl | hm
    · omega
    · have := hlt g hm
      omega
  refine ⟨q :: own (.slice a2 (its.length + 1) c2), _, ⟨_, its ++ [(.slice a b.length c, b)], (h1.touch hT1 h3).set 0 _, ?_, hq2, fun x hx => ?_, by simp, rfl, rfl⟩, hT, hgrow, fun g hg => ?_⟩
  · rw [List.length_append, List.map_append]
    exact k1.touch hT2 (fun g hg hm => by simp at hm; exact hq2 (hm ▸ hg))
  · rcases List.mem_append.1 hx with hx | hx
    · have hx4 := h4 x hx
      refine ⟨hx4.1.touch hT hx4.2, fun g hg hm => ?_⟩
      have hl4 := hx4.1.lt g hg
      have hn4 := hx4.2 g hg
      rcases hgrow g hm with h | h
      · exact hn4 h
      · omega
    · simp at hx
      subst hx
      refine ⟨(g1.touch ((Touch.refl [] _).alloc o) (by simp)).touch ((k2.mono (js := q :: own v) (fun j hj => .inl (by simp [hj]))).trans hT2 (by simp)) hb0, fun g hg hm => ?_⟩
      have hl1 := hlt1 g hg
      have hn := hb0 g hg
      rcases List.mem_cons.1 hm with rfl | hm
      · exact hn (by simp)
      · rcases k3 g hm with h | h
        · exact hn (by simp [h])
        · omega
  · rcases List.mem_append.1 hg with hg | hg
    · exact (hgrow g hg).imp (List.mem_append_left _) id
    · rw [List.flatMap_append] at hg
      rcases List.mem_append.1 hg with hg | hg
      · exact .inl (List.mem_append_right _ hg)
      · simp at hg
        exact .inr (g3 g hg)

theorem net_small {n m k : Nat} (h : n + m ≤ 1099511627776) (hk : k < m) : n + k + 1 ≤ maxLen ∧ (n + k + 1) * 24 ≤ 140737488355328 := by unfold maxLen; omega
theorem one_of {a : Option Addr} {n c : Nat} : ∀ u ∈ [Value.slice a n c], u.oneCell' = true := by
  intro u hu
  simp at hu
  subst hu
  rfl
theorem one_rd (w : World) (t : TypeId) (u : Value) : Rd (w.alloc (.cells #[u] t)) 1 (.slice (some ⟨w.heap.size, 0, none⟩) 1 1) 1 [u] :=
  ⟨rfl, .inr ⟨_, 0, 1, rfl, Nat.le_refl _, fun _ => by simp, fun j hj => by
    obtain rfl : j = 0 := by omega
    exact World.cell?_alloc_new (w := w) #[u] t 0⟩⟩

set_option maxHeartbeats 1000000 in
theorem netPush_any (w : World) (q : Nat) (K F : List Nat) (L : List (List UInt8)) (x : Value) (us : List (Value × List UInt8)) (h : IsNet w q K F L) (hx : Rd w 1 x us.length (us.map (·.1))) (hxo : ∀ g ∈ own x, g ∉ K)
    (hu : ∀ y ∈ us, Rd w 1 y.1 y.2.length (cb y.2) ∧ (∀ g ∈ own y.1, g ∉ K) ∧ y.2.length ≤ 1099511627776) (hl : L.length + us.length ≤ 1099511627776) :
    Calls Try.prog 12 #[.pointer (some ⟨q, 0, none⟩), x] w fun e w' => e = .returned (.tuple #[]) ∧ ∃ K' F', IsNet w' q K' F' (L ++ us.map (·.2)) ∧ Touch K w w' ∧ Grow K K' w ∧ Grow F F' w := by
  obtain ⟨i0, hi0, hz0, hz1, hz2⟩ := info_parts info26
  obtain ⟨ax, cx, rfl, hxn⟩ : ∃ a c, x = .slice a us.length c ∧ (0 < us.length → ∃ b o, a = some ⟨b, o, none⟩) := by
    rcases hx.cases with ⟨a, c, rfl, h0, _⟩ | ⟨g, off, cap, rfl, _⟩
    · rw [h0]; exact ⟨_, _, rfl, by simp⟩
    · exact ⟨_, _, rfl, fun _ => ⟨_, _, rfl⟩⟩
  have HX := Lib.hid hx
  have HXO := Lib.hid hxo
  have HU := Lib.hid hu
  have HL := Lib.hid hl
  have HXN := Lib.hid hxn
  have HN := Lib.hid h
  have hm : (us.length : Int) ≤ 9223372036854775807 := by omega
  clear hx hxo hu hl hxn h
  go_enter Try.func12, Try.ntmps12
  go_wp2_with fail
  go_loopw [8] (fun i wr => ∃ (k : Nat) (K' F' : List Nat), k ≤ us.length ∧ i = .int .i64 (k : Int) ∧ IsNet wr q K' F' (L ++ (us.take k).map (·.2)) ∧ Touch K w wr ∧ Grow K K' w ∧ Grow F F' w) (fun i _ => us.length - (intOf i).toNat)
  case atStart => exact ⟨0, K, F, by omega, rfl, by simpa using HN.out, Touch.refl _ _, Grow.refl _ _, Grow.refl _ _⟩
  case round =>
    obtain ⟨k, K', F', hk, rfl, hN, hT, hK, hF⟩ := hrel
    have HT := Lib.hid hT
    have HK := Lib.hid hK
    have HF := Lib.hid hF
    have HNN := Lib.hid hN
    clear hT hK hF
    by_cases hlt : k < us.length
    · obtain ⟨b0, o0, rfl⟩ := HXN.out (by omega)
      obtain ⟨y, hy⟩ : ∃ y, us[k]? = some y := ⟨_, List.getElem?_eq_getElem hlt⟩
      obtain ⟨u, b⟩ := y
      have hyu := HU.out _ (List.mem_of_getElem? hy)
      have hc0 : wr.cell? ⟨b0, o0 + k, none⟩ = some u := by
        rcases (HX.out.touch HT.out HXO.out).cases with ⟨a, c, he, h0, _⟩ | ⟨g, off, cap, he, _, _, hc⟩
        · omega
        · simp at he
          obtain ⟨⟨rfl, rfl⟩, rfl⟩ := he
          rw [hc k (by omega)]
          simp [hy]
      have HY := Lib.hid (hyu.1.touch HT.out hyu.2.1)
      have HYL := Lib.hid hyu.2.2
      have HYY := Lib.hid hy
      obtain ⟨v, its, h1, h2, h3, h4, hLe, rfl, rfl⟩ := hN
      have hlen : its.length = L.length + k := by
        have := congrArg List.length hLe
        simp at this
        omega
      obtain ⟨va, vc, rfl, _⟩ := h2.form
      have c1 := h1.cell 0
      simp only [List.getElem?_cons_zero] at c1
      have H1 := Lib.hid h1
      have H2 := Lib.hid h2
      have H3 := Lib.hid h3
      have H4 := Lib.hid h4
      have HLE := Lib.hid hLe
      have HS := Lib.hid (show its.length + 1 ≤ maxLen ∧ (its.length + 1) * 24 ≤ 140737488355328 from by have := net_small HL.out hlt; rw [hlen]; exact this)
      clear h1 h2 h3 h4 hLe hyu hy hlen
      go_upto_region 3 with fail
      have HYD := Lib.hid (show Rd wr.drew 1 u b.length (cb b) from HY.out.touch ((Touch.refl [] _).drew) (by simp))
      have H1D := Lib.hid (show IsBlk wr.drew q [.slice va its.length vc] 47 from H1.out)
      have H2D := Lib.hid (show Sl wr.drew 26 1 (.slice va its.length vc) its.length (its.map (·.1)) from H2.out.touch ((Touch.refl [] _).drew) (by simp))
      go_region_law (first | (go_simp; go_at_call 17; refine (clone_any _ b _ HYD.out HYL.out).mono ?_; rintro e w1 ⟨a, c, rfl, g1, g2, g3⟩; have G1 := Lib.hid g1; have G2 := Lib.hid g2; have G3 := Lib.hid g3; have e1 := (H1D.out.touch g2 (by simp)).cell 0; simp only [List.getElem?_cons_zero] at e1; have e2 : q < w1.heap.size := (H1D.out.touch g2 (by simp)).lt; clear g1 g2 g3) | (refine step_append_sl _ rfl (.tmp 16) (.tmp 19) 45 rfl 26 i0 (.slice none 0 0) 1 24 Try.underlying45 hi0 hz0 hz1 hz2 rfl (by decide) (.slice va its.length vc) its.length (its.map (·.1)) rfl ((H2D.out.touch G2.out (by simp)).touch ((Touch.refl [] _).alloc _) (by simp)) (.slice (some ⟨w1.heap.size, 0, none⟩) 1 1) 1 [.slice a b.length c] rfl (one_rd _ _ _) one_of HS.out.1 HS.out.2 ?_; intro a2 c2 w2 k1 k2 k3 k4; have K1 := Lib.hid k1; have K2 := Lib.hid k2; have K3 := Lib.hid k3; have I2 := ((H1D.out.touch G2.out (by simp)).alloc _).touch k2 H3.out; have d1 := I2.cell 0; have d2 := I2.frozen 0; simp only [List.getElem?_cons_zero] at d1; clear I2 k1 k2 k3 k4))
      all_goals
        go_wp2_with fail
        go_roundw
        case rel =>
          obtain ⟨K2, F2, r1, r2, r3, r4⟩ := net_put H1D.out H3.out H2D.out H4.out G1.out G2.out G3.out K1.out K2.out K3.out
          refine ⟨k + 1, K2, F2, by omega, by go_num, ?_, HT.out.drew.trans r2 HK.out, HK.out.trans r3 HT.out.size, HF.out.trans r4 HT.out.size⟩
          rw [List.take_add_one, HYY.out, Option.toList_some, List.map_append, ← List.append_assoc, HLE.out]
          exact r1
        case measure => simp [intOf]; omega
    · obtain rfl : k = us.length := by omega
      go_wp2_with fail
      go_end0
      exact ⟨rfl, K', F', by simpa using HNN.out, HT.out, HK.out, HF.out⟩
end Go.Proofs.Ytaklbobmbobcaaa
