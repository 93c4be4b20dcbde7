/- The contract of whole. Conditions: the ledger is in order. -/
import Derived.Test.YthnokfchebmjiaaS
namespace Go.Proofs.Ythnokfchebmjiaa
open Go.RowKit

theorem V_len : ∀ (L : List Rng) (b c t : Nat), V L b → (∀ x ∈ L, c ≤ x.1 ∧ x.2 < t) → c ≤ t → L.length + c ≤ t
  | [], _, c, t, _, _, h => by simpa using h
  | x :: L, b, c, t, hV, h, _ => by
    have hx := hV.2 x (by simp)
    have h1 := h x (by simp)
    have ih := V_len L b (x.2 + 1) t hV.tail (fun y hy => ⟨by have := hV.head y hy; omega, (h y (by simp [hy])).2⟩) (by omega)
    simp only [List.length_cons]
    omega
theorem sent_len {σ : Ldg} (h : σ.Ok) : (σ.sent.length : Int) ≤ σ.last + 1 := by
  have hl := h.last
  by_cases h0 : σ.last = -1
  · cases hs : σ.sent with
    | nil => simp; omega
    | cons x L => have := h.most x (by rw [hs]; simp); omega
  · have := V_len σ.sent 0 0 (σ.last + 1).toNat h.sent (fun x hx => ⟨Nat.zero_le _, by have := h.most x hx; omega⟩) (Nat.zero_le _)
    omega
theorem whB_rev (r1 r2 : Nat) (L : List Rng) : whB r1 r2 L.reverse = whB r1 r2 L := by unfold whB; rw [List.any_reverse]
set_option maxHeartbeats 2000000 in
theorem whole_any (w : World) (p : Nat) (F : List Nat) (σ : Ldg) (r1 r2 : Nat) (h : IsL w p F σ) :
    Calls Try.prog 23 #[.pointer (some ⟨p, 0, none⟩), .agg #[.int .u64 (r1 : Int), .int .u64 (r2 : Int)]] w fun e w' => e = .returned (.bool (whB r1 r2 σ.sent)) ∧ Touch [] w w' := by
  obtain ⟨mb, ao, co, q, Fq, m, h1, h2, h3, h4, _, _, _, _, hok, _⟩ := h
  have H1 := Lib.hid h1
  have H4 := Lib.hid h4
  have HT : Hid ((σ.sent.reverse.take ((σ.opens.length : Int) + σ.last + 2).toNat) = σ.sent.reverse) := Lib.hid (by
    have := sent_len hok
    rw [List.take_of_length_le (by rw [List.length_reverse]; omega)])
  obtain ⟨hla1, hla2⟩ := hok.last
  have w1 : IntKind.i64.wrap ((σ.opens.length : Int) + σ.last) = (σ.opens.length : Int) + σ.last := IntWalk.i64_in _ (by have := hok.nopen; have := hok.tot; omega)
  have w2 : IntKind.i64.wrap ((σ.opens.length : Int) + σ.last + 2) = (σ.opens.length : Int) + σ.last + 2 := IntWalk.i64_in _ (by have := hok.nopen; have := hok.tot; omega)
  have hop : σ.opens.length ≤ 100000 := by have := hok.nopen; have := hok.tot; omega
  have HSL : Hid (σ.sent.length ≤ 100000) := Lib.hid (by have := hok.nsent; have := hok.tot; omega)
  have c1 := h1.cell 1
  have c2 := h1.cell 2
  have c3 := h1.cell 3
  have hl := h1.lt
  simp only [lcells, List.getElem?_cons_zero, List.getElem?_cons_succ] at c1 c2 c3
  clear h1 h2 h3 h4 hok
  have HX : Hid (IsBlk (w.alloc (.cells #[.int .u64 (r1 : Int), .int .u64 (r2 : Int)] 35)) w.heap.size [.int .u64 (r1 : Int), .int .u64 (r2 : Int)] 35) := Lib.hid (IsBlk.new w _ _)
  go_enter Try.func23, Try.ntmps23
  go_wp2_with fail
  go_region_held3 (fun w' => w'.cell? ⟨p, 1, none⟩ = some (.slice ao σ.opens.length co) ∧ w'.cell? ⟨p, 2, none⟩ = some (.pointer (some ⟨q, 0, none⟩)) ∧ w'.cell? ⟨p, 3, none⟩ = some (.int .i64 σ.last)) (go_keep) (first | (go_at_call 40; refine (ranges_any _ q Fq σ.sent 0 _ (H4.out.keep (((Touch.refl [] _).alloc _).drew)) (by have := HSL.out; omega)).mono ?_; rw [HT.out]; rintro e w2 ⟨v, rfl, k1, k2, k3⟩; have K1 := Lib.hid k1; have K2 : Hid (Touch [] w w2) := Lib.hid ((((Touch.refl [] w).alloc _).drew).trans k2 (by simp)); have HB := Lib.hid (H1.out.touch K2.out (by simp)); have HX2 := Lib.hid ((HX.out.touch (ks := []) ((Touch.refl _ _).drew) (by simp)).touch k2 (by simp)); have e1 := HB.out.cell 1; have e2 := HB.out.cell 2; have e3 := HB.out.cell 3; simp only [lcells, List.getElem?_cons_zero, List.getElem?_cons_succ] at e1 e2 e3; clear k1 k2 k3) | (go_at_call 39; refine (containsWh_any _ _ w.heap.size r1 r2 σ.sent.reverse K1.out.rd (by have := HSL.out; rw [List.length_reverse]; unfold maxLen; omega) ⟨HX2.out.cell 0, HX2.out.cell 1⟩).mono ?_; rintro e w3 ⟨rfl, k⟩; have K3 := Lib.hid (K2.out.trans k (by simp)); have HB3 := Lib.hid (H1.out.touch K3.out (by simp)); have g1 := HB3.out.cell 1; have g2 := HB3.out.cell 2; have g3 := HB3.out.cell 3; simp only [lcells, List.getElem?_cons_zero, List.getElem?_cons_succ] at g1 g2 g3; clear k))
  all_goals go_wp2_with fail
  all_goals go_ret
  all_goals exact ⟨ret_b' (whB_rev _ _ _), K3.out⟩
end Go.Proofs.Ythnokfchebmjiaa
