/- Both ledgers are alike where nothing is open and the measures are the same. Conditions: both are in order. -/
import Derived.Test.YthnokfchebmjiaaRb
import Derived.Test.YthnokfchebmjiaaLb
namespace Go.Proofs.Ythnokfchebmjiaa
open Go.RowKit

set_option maxHeartbeats 8000000 in
set_option maxRecDepth 100000 in
theorem alike_any (w : World) (p q : Nat) (F G : List Nat) (σ : Ldg) (ρ : RL) (h1 : IsL w p F σ) (h2 : IsR w q G ρ) (hop : σ.opens = []) (hsh : ρ.Shut) (hsa : ρ.samp = true) (e1 : σ.smooth = ρ.smooth) (e2 : σ.varied = ρ.varied) (e3 : σ.least = ρ.least) (e4 : σ.largest = ρ.top) :
    Calls Try.prog 15 #[.pointer (some ⟨p, 0, none⟩), .pointer (some ⟨q, 0, none⟩)] w fun e w' => e = .returned (.bool true) ∧ Touch [] w w' := by
  have H1 := Lib.hid h1
  have H2 := Lib.hid h2
  have HO := Lib.hid hop
  have HS := Lib.hid hsh
  have HA := Lib.hid hsa
  have E4 := Lib.hid e4
  have HE := Lib.hid (And.intro e1 (And.intro e2 e3))
  have hq := h2
  obtain ⟨aS, cS, aO, cO, hb, _⟩ := hq
  have HB := Lib.hid hb
  have HFL : Hid (flight σ.opens = 0) := Lib.hid (by rw [hop]; rfl)
  clear h1 h2 hop hsh hsa e1 e2 e3 e4 hb
  go_enter Try.func15, Try.ntmps15
  go_wp2_with fail
  refine (rtt_any w p F σ H1.out).mono ?_
  rintro e w1 ⟨rfl, k⟩
  have T1 := Lib.hid k
  clear k
  go_wp2_with fail
  refine (rttR_any w1 q G ρ (H2.out.touch T1.out (by simp)) HA.out).mono ?_
  rw [HE.out.1, HE.out.2.1, HE.out.2.2]
  rintro e w2 ⟨rfl, k⟩
  have T2 := Lib.hid (T1.out.trans k (by simp))
  clear k
  have hT0 : Touch [] w w2.drew := T2.out.drew
  have hbk := HB.out.touch T2.out (by simp)
  have c2 := hbk.cell 2
  have cl := hbk.lt
  simp only [rcells, List.getElem?_cons_zero, List.getElem?_cons_succ] at c2
  clear hbk
  go_wp2_with fail
  go_region_held3 (fun w' => w'.cell? ⟨q, 2, none⟩ = some (.int .i64 ρ.top)) (go_keep) (first | (go_at_call 17; refine (flight_any _ p F σ (H1.out.keep (by assumption))).mono ?_; rw [HFL.out]; rintro e wx ⟨rfl, k⟩; have hTx : Touch [] w wx := Touch.trans (by assumption) k (by simp); have hbk := HB.out.touch hTx (by simp); have d2 := hbk.cell 2; have dl := hbk.lt; simp only [rcells, List.getElem?_cons_zero, List.getElem?_cons_succ] at d2; clear hbk k) | (go_at_call 34; refine (flightR_any _ q G ρ (H2.out.touch (ks := []) (by assumption) (by simp)) HS.out).mono ?_; rintro e wy ⟨rfl, k⟩; have hTy : Touch [] w wy := Touch.trans (by assumption) k (by simp); have hbk := HB.out.touch hTy (by simp); have d2 := hbk.cell 2; have dl := hbk.lt; simp only [rcells, List.getElem?_cons_zero, List.getElem?_cons_succ] at d2; clear hbk k) | (go_at_call 18; refine (largest_any _ p F σ (H1.out.keep (by assumption))).mono ?_; rw [E4.out]; rintro e wz ⟨rfl, rfl⟩) | (go_at_call 19; refine (open_any _ p F σ (H1.out.keep (by assumption))).mono ?_; rw [HO.out]; rintro e wu ⟨vu, rfl, r1, k, _⟩; obtain ⟨au, cu, rfl⟩ := r1.form; have hTu : Touch [] w wu := Touch.trans (by assumption) k (by simp); have hbk := HB.out.touch hTu (by simp); have d2 := hbk.cell 2; have dl := hbk.lt; simp only [rcells, List.getElem?_cons_zero, List.getElem?_cons_succ] at d2; clear hbk k r1) | (go_at_call 35; refine (opensR_any _ q G ρ (H2.out.touch (ks := []) (by assumption) (by simp)) HS.out).mono ?_; rintro e wv ⟨rfl, k⟩; have hTv : Touch [] w wv := Touch.trans (by assumption) k (by simp); have hbk := HB.out.touch hTv (by simp); have d2 := hbk.cell 2; have dl := hbk.lt; simp only [rcells, List.getElem?_cons_zero, List.getElem?_cons_succ] at d2; clear hbk k) | (go_at_call 14; refine (nums_any _ _ none 0 0 _ _ [] [] ⟨rfl, .inl ⟨_, _, rfl, rfl⟩⟩ ⟨rfl, .inl ⟨_, _, rfl, rfl⟩⟩ rfl rfl (by omega)).mono ?_; rintro e wn ⟨rfl, k⟩; have hTn : Touch [] w wn := Touch.trans (by assumption) k (by simp); have hbk := HB.out.touch hTn (by simp); have d2 := hbk.cell 2; have dl := hbk.lt; simp only [rcells, List.getElem?_cons_zero, List.getElem?_cons_succ] at d2; clear hbk k))
  all_goals go_wp2_with fail
  all_goals go_ret
  all_goals exact ⟨rfl, by assumption⟩
end Go.Proofs.Ythnokfchebmjiaa
