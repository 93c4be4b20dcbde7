/- The contract of Next, where nothing is lost, and joined. Conditions: the half is in order. -/
import Derived.Test.YtmidlielcioinaaE
namespace Go.Proofs.Ytmidlielcioinaa
open Go.RowKit

theorem top_ok {σ : Snd} (hok : σ.Ok) (m : Nat) (hm : m ≤ min σ.b.length σ.max - σ.top) : Snd.Ok { σ with top := σ.top + m } := by
  have h1 := hok.top
  have h2 := hok.tm
  exact ⟨hok.lost, hok.acked, fun x hx => by have := hok.lt x hx; show x.2 < σ.top + m; omega, fun x hx => by have := hok.at' x hx; show x.2 < σ.top + m; omega, by show σ.top + m ≤ σ.b.length; omega, by show σ.top + m ≤ σ.max; omega, hok.max, hok.len, hok.fin⟩
set_option maxRecDepth 100000 in
theorem next_reset (w : World) (p : Nat) (F : List Nat) (σ : Snd) (n : Int) (h : IsSnd w p F σ) (hr : σ.reset = true) :
    Calls Try.prog 11 #[.pointer (some ⟨p, 0, none⟩), .int .i64 n] w (NextP w p F (nextS σ n.toNat)) := by
  have HP : Hid (nextS σ n.toNat = ((0, [], false, false), σ)) := Lib.hid (by unfold nextS; rw [hr]; rfl)
  rw [HP.out]
  have HH := Lib.hid h
  obtain ⟨ab, al, cb, cl, q, Fq, h1, _⟩ := h
  have c7 := h1.cell 7
  have hpl := h1.lt
  simp only [cells, List.getElem?_cons_zero, List.getElem?_cons_succ] at c7
  rw [hr] at c7
  clear hr h1
  go_enter Try.func11, Try.ntmps11
  go_wp2_with fail
  refine bodyPost_ret (v := .tuple #[.int .u64 0, .slice none 0 0, .bool false, .bool false]) (by simp [results, Try.results11, go_sem]) rfl ?_
  exact ⟨.slice none 0 0, rfl, ⟨rfl, .inl ⟨_, _, rfl, rfl⟩⟩, StepV.same HH.out (Touch.refl _ _) (by simp [own]), by simp⟩

set_option maxRecDepth 100000 in
set_option maxHeartbeats 8000000 in
theorem next_new (w : World) (p : Nat) (F : List Nat) (σ : Snd) (n : Int) (h : IsSnd w p F σ) (hn : n ≤ 9223372036854775807) (hn0 : 0 < n) (hr : σ.reset = false) (hlo : σ.lost = []) (hlf : 0 < min σ.b.length σ.max - σ.top) :
    Calls Try.prog 11 #[.pointer (some ⟨p, 0, none⟩), .int .i64 n] w (NextP w p F (nextS σ n.toNat)) := by
  have hok := h.ok
  obtain ⟨m, hm⟩ : ∃ m, m = min n.toNat (min σ.b.length σ.max - σ.top) := ⟨_, rfl⟩
  obtain ⟨lf, hlfe⟩ : ∃ lf, lf = min σ.b.length σ.max - σ.top := ⟨_, rfl⟩
  obtain ⟨k, hk⟩ : ∃ k, k = min σ.b.length σ.max := ⟨_, rfl⟩
  have HP : Hid (nextS σ n.toNat = ((σ.top, bytesAt σ σ.top m, chunkF { σ with top := σ.top + m } σ.top m, true), chunkS { σ with top := σ.top + m } σ.top m)) := Lib.hid (by
    unfold nextS
    rw [hr, hlo]
    simp only [Bool.false_eq_true, if_false]
    rw [← hm, if_pos (by omega)])
  have hto := hok.top
  have htm := hok.tm
  have hlen := hok.len
  have hmxx := hok.max
  have hm0 : 0 < m ∧ m ≤ lf := by omega
  have hmb : σ.top + m ≤ σ.b.length := by omega
  have HO := Lib.hid (top_ok hok m (by omega))
  have HBL := Lib.hid (bytesAt_len σ σ.top m hmb)
  have r1 : IntKind.u64.wrap (σ.b.length : Int) = (σ.b.length : Int) := IntWalk.u64_in _ (by omega)
  have r2 : min (σ.b.length : Int) (σ.max : Int) = (k : Int) := by omega
  have r3 : IntKind.i64.wrap (k : Int) = (k : Int) := IntWalk.i64_in _ (by omega)
  have r4 : IntKind.i64.wrap ((k : Int) - (σ.top : Int)) = (lf : Int) := by rw [IntWalk.i64_in _ (by omega)]; omega
  have r5 : min n (lf : Int) = (m : Int) := by omega
  have hmax : max n 0 = n := by omega
  rw [HP.out]
  obtain ⟨ab, al, cb, cl, q, Fq, h1, h2, h3, h4, hF, d1, d2, d3, _⟩ := h
  have HF := Lib.hid hF
  have c0 := h1.cell 0
  have c3 := h1.cell 3
  have f3 := h1.frozen 3
  have c4 := h1.cell 4
  have c6 := h1.cell 6
  have c7 := h1.cell 7
  have hpl := h1.lt
  simp only [cells, List.getElem?_cons_zero, List.getElem?_cons_succ] at c0 c3 c4 c6 c7
  rw [hr] at c7
  rw [hlo, List.length_nil] at c4
  have H1 := Lib.hid h1
  have HQ := Lib.hid (And.intro h2 (And.intro h3 (And.intro h4 (And.intro d1 (And.intro d2 d3)))))
  have HR2 := Lib.hid r2
  have hmi : (0 : Int) < (m : Int) := by omega
  have htl : (σ.top : Int) + (m : Int) ≤ 50000 := by omega
  clear hok hF h1 h2 h3 h4 d1 d2 d3 hm hlfe hk hr hlo hlf hm0 hmxx
  go_enter Try.func11, Try.ntmps11
  go_wp2_with fail
  go_quiet (fail)
  clear r1 r2 r3 r4
  go_upto_region 15 with (fail)
  obtain ⟨W1, hW1⟩ : ∃ W1, W1 = (w.drewN nq).setCell ⟨p, 3, none⟩ (.int .i64 ((σ.top : Int) + (m : Int))) := ⟨_, rfl⟩
  rw [← hW1]
  have HST : Hid (Step w p F { σ with top := σ.top + m } W1) := Lib.hid (by
    obtain ⟨h2, h3, h4, d1, d2, d3⟩ := HQ.out
    rw [hW1, HF.out]
    exact IsSnd.head (σ := σ) (τ := { σ with top := σ.top + m }) h2 h3 h4 d1 d2 d3 (H1.out.set 3 _) (((Touch.refl [p] w).drewN nq).set (.inl (by simp)) _) rfl rfl rfl HO.out)
  have b3 : W1.cell? ⟨p, 3, none⟩ = some (.int .i64 ((σ.top : Int) + (m : Int))) := by
    rw [hW1]
    have := ((H1.out.drewN nq).set 3 (.int .i64 ((σ.top : Int) + (m : Int)))).cell 3
    simpa [cells] using this
  have bl : p < W1.heap.size := by rw [hW1]; simpa [World.setCell] using hpl
  obtain ⟨F6, g1, g2, g3⟩ := HST.out
  have G1 := Lib.hid g1
  have G2 := Lib.hid g2
  have G3 := Lib.hid g3
  clear hW1 g1 g2 g3 c0 c3 f3 c4 c6 c7
  go_wp2_with fail
  refine (chunk_any _ p F6 { σ with top := σ.top + m } σ.top m G1.out (by show σ.top + m ≤ σ.b.length; omega)).mono ?_
  rintro e w7 ⟨v7, rfl, k1, k2, k3⟩
  obtain ⟨va, vc, hve⟩ := k1.form
  subst hve
  have K71 := Lib.hid k1
  have K72 := Lib.hid (StepV.trans G2.out G3.out k2)
  have K73 := Lib.hid (fun g' hg' => Nat.le_trans G2.out.size (k3 g' hg'))
  clear k1 k2 k3
  go_wp2_with fail
  refine bodyPost_ret (v := .tuple #[.int .u64 (σ.top : Int), .slice va m vc, .bool (chunkF { σ with top := σ.top + m } σ.top m), .bool true]) (by simp [results, Try.results11, go_sem]) rfl ?_
  refine ⟨.slice va m vc, rfl, ?_, K72.out, K73.out⟩
  show Rd w7 1 (.slice va m vc) (bytesAt σ σ.top m).length (bs (bytesAt σ σ.top m))
  rw [HBL.out]
  exact K71.out

set_option maxRecDepth 100000 in
set_option maxHeartbeats 16000000 in
theorem next_zero (w : World) (p : Nat) (F : List Nat) (σ : Snd) (n : Int) (h : IsSnd w p F σ) (_ : n ≤ 9223372036854775807) (hr : σ.reset = false) (hz : n ≤ 0 ∨ (σ.lost = [] ∧ min σ.b.length σ.max - σ.top = 0)) :
    Calls Try.prog 11 #[.pointer (some ⟨p, 0, none⟩), .int .i64 n] w (NextP w p F (nextS σ n.toNat)) := by
  have hok := h.ok
  obtain ⟨n0, hn0⟩ : ∃ n0 : Nat, n0 = n.toNat := ⟨_, rfl⟩
  obtain ⟨lf, hlfe⟩ : ∃ lf, lf = min σ.b.length σ.max - σ.top := ⟨_, rfl⟩
  obtain ⟨k, hk⟩ : ∃ k, k = min σ.b.length σ.max := ⟨_, rfl⟩
  have hto := hok.top
  have htm := hok.tm
  have hlen := hok.len
  have hmxx := hok.max
  obtain ⟨L, hL⟩ : ∃ L, L = σ.lost.length := ⟨_, rfl⟩
  have hL50 : L ≤ 50000 := by have := V_len σ.lost 0 0 σ.top hok.lost (fun x hx => ⟨Nat.zero_le _, hok.lt x hx⟩) (Nat.zero_le _); omega
  have HC : Hid (chunkF σ σ.top 0 = (σ.ended && (((σ.top : Int) == (σ.b.length : Int)) && (((σ.fin : Int) == 0) || ((σ.fin : Int) == 2))))) := Lib.hid (by unfold chunkF; simp)
  have HP : Hid (nextS σ n.toNat = if ((L : Int) == 0) && chunkF σ σ.top 0 then ((σ.top, [], true, true), chunkS σ σ.top 0) else ((0, [], false, false), σ)) := Lib.hid (by
    unfold nextS
    rw [hr]
    simp only [Bool.false_eq_true, if_false]
    cases hl : σ.lost with
    | nil =>
      have e : min n.toNat (min σ.b.length σ.max - σ.top) = 0 := by rcases hz with h | h <;> omega
      rw [hL, hl]
      simp only [e]
      rw [if_neg (by omega)]
      simp
    | cons r rest =>
      have e : ¬ 0 < n.toNat := by
        rcases hz with h | h
        · omega
        · rw [hl] at h; cases h.1
      have e2 : (((r :: rest).length : Int) == 0) = false := by rw [beq_eq_false_iff_ne]; simp; omega
      rw [hL, hl]
      simp only [e2, Bool.false_and]
      rw [if_neg e]
      rfl)
  have htest : ¬ (0 : Int) < (L : Int) ∨ ((0 : Int) < (L : Int) ∧ n0 = 0) := by
    rcases hz with h | h
    · by_cases h2 : (0 : Int) < (L : Int)
      · exact .inr ⟨h2, by omega⟩
      · exact .inl h2
    · exact .inl (by rw [hL, h.1]; simp)
  have r6 : min (0 : Int) (lf : Int) = 0 := by omega
  have r1 : IntKind.u64.wrap (σ.b.length : Int) = (σ.b.length : Int) := IntWalk.u64_in _ (by omega)
  have r2 : min (σ.b.length : Int) (σ.max : Int) = (k : Int) := by omega
  have r3 : IntKind.i64.wrap (k : Int) = (k : Int) := IntWalk.i64_in _ (by omega)
  have r4 : IntKind.i64.wrap ((k : Int) - (σ.top : Int)) = (lf : Int) := by rw [IntWalk.i64_in _ (by omega)]; omega
  have r5 : min (n0 : Int) (lf : Int) = 0 := by rcases hz with h | h <;> omega
  have HMAX : Hid (max n 0 = (n0 : Int)) := Lib.hid (by omega)
  rw [HP.out]
  have HH := Lib.hid h
  obtain ⟨ab, al, cb, cl, q, Fq, h1, h2, h3, h4, hF, d1, d2, d3, _⟩ := h
  have c0 := h1.cell 0
  have c1 := h1.cell 1
  have c2 := h1.cell 2
  have c3 := h1.cell 3
  have c4 := h1.cell 4
  have c6 := h1.cell 6
  have c7 := h1.cell 7
  have hpl := h1.lt
  simp only [cells, List.getElem?_cons_zero, List.getElem?_cons_succ] at c0 c1 c2 c3 c4 c6 c7
  rw [hr] at c7
  rw [← hL] at c4
  have hwt : IntKind.i64.wrap (σ.top : Int) = (σ.top : Int) := IntWalk.i64_in _ (by omega)
  obtain ⟨Bz, hBz⟩ : ∃ B, B = (((L : Int) == 0) && chunkF σ σ.top 0) := ⟨_, rfl⟩
  rw [← hBz]
  have HBZ := Lib.hid hBz
  clear hok hF h1 h2 h3 h4 d1 d2 d3 hn0 hlfe hk hr hz hmxx hL hBz
  cases te : σ.ended with
  | false =>
    rw [te] at c1
    have hv : Bz = false := by rw [HBZ.out]; rw [HC.out, te]; simp
    subst hv
    rw [if_neg (by simp)]
    go_enter Try.func11, Try.ntmps11
    go_upto_region 2 with (fail)
    rw [HMAX.out]
    rcases htest with ht | ⟨ht, rfl⟩
    all_goals
      go_wp2_with fail
      go_quiet (fail)
      go_wp2_with fail
      go_quiet (fail)
      go_wp2_with fail
      refine bodyPost_ret (v := .tuple #[.int .u64 0, .slice none 0 0, .bool false, .bool false]) (by simp [results, Try.results11, go_sem]) rfl ?_
      exact ⟨.slice none 0 0, rfl, ⟨rfl, .inl ⟨_, _, rfl, rfl⟩⟩, StepV.same HH.out (by repeat (first | exact Touch.refl _ _ | refine Touch.drewN ?_ _ | refine Touch.drew ?_)) (by simp [own]), by simp⟩
  | true =>
    rw [te] at c1
    cases tt : ((σ.top : Int) == (σ.b.length : Int)) with
    | false =>
      have hv : Bz = false := by rw [HBZ.out]; rw [HC.out, tt]; simp
      subst hv
      rw [if_neg (by simp)]
      go_enter Try.func11, Try.ntmps11
      go_upto_region 2 with (fail)
      rw [HMAX.out]
      rcases htest with ht | ⟨ht, rfl⟩
      all_goals
        go_wp2_with fail
        go_quiet (fail)
        go_wp2_with fail
        go_quiet (fail)
        go_wp2_with fail
        refine bodyPost_ret (v := .tuple #[.int .u64 0, .slice none 0 0, .bool false, .bool false]) (by simp [results, Try.results11, go_sem]) rfl ?_
        exact ⟨.slice none 0 0, rfl, ⟨rfl, .inl ⟨_, _, rfl, rfl⟩⟩, StepV.same HH.out (by repeat (first | exact Touch.refl _ _ | refine Touch.drewN ?_ _ | refine Touch.drew ?_)) (by simp [own]), by simp⟩
    | true =>
      cases tl : ((L : Int) == 0) with
      | false =>
        have hv : Bz = false := by rw [HBZ.out]; rw [tl]; rfl
        subst hv
        rw [if_neg (by simp)]
        go_enter Try.func11, Try.ntmps11
        go_upto_region 2 with (fail)
        rw [HMAX.out]
        rcases htest with ht | ⟨ht, rfl⟩
        all_goals
          go_wp2_with fail
          go_quiet (fail)
          go_wp2_with fail
          go_quiet (fail)
          go_wp2_with fail
          refine bodyPost_ret (v := .tuple #[.int .u64 0, .slice none 0 0, .bool false, .bool false]) (by simp [results, Try.results11, go_sem]) rfl ?_
          exact ⟨.slice none 0 0, rfl, ⟨rfl, .inl ⟨_, _, rfl, rfl⟩⟩, StepV.same HH.out (by repeat (first | exact Touch.refl _ _ | refine Touch.drewN ?_ _ | refine Touch.drew ?_)) (by simp [own]), by simp⟩
      | true =>
        cases t0 : ((σ.fin : Int) == 0) with
        | true =>
          have hv : Bz = true := by rw [HBZ.out]; rw [tl, HC.out, te, tt, t0]; rfl
          subst hv
          rw [if_pos rfl]
          go_enter Try.func11, Try.ntmps11
          go_upto_region 2 with (fail)
          rw [HMAX.out]
          rcases htest with ht | ⟨ht, rfl⟩
          all_goals
            go_wp2_with fail
            go_quiet (fail)
            go_wp2_with fail
            go_quiet (fail)
            go_wp2_with fail
            refine (chunk_any _ p F σ σ.top 0 (HH.out.keep (by repeat (first | exact Touch.refl _ _ | refine Touch.drewN ?_ _ | refine Touch.drew ?_))) (by omega)).mono ?_
            rw [(Bool.and_eq_true_iff.1 HBZ.out.symm).2]
            rintro e w7 ⟨v7, rfl, k1, k2, k3⟩
            obtain ⟨va, vc, hve⟩ := k1.form
            subst hve
            have K71 := Lib.hid k1
            have K72 : Hid (StepV w p F (chunkS σ σ.top 0) w7 (.slice va 0 vc)) := Lib.hid (StepV.trans (w := w) (F' := F) (Touch.mono (ks := []) (by repeat (first | exact Touch.refl _ _ | refine Touch.drewN ?_ _ | refine Touch.drew ?_)) (by simp)) (fun g hg => .inl hg) k2)
            have K73 := Lib.hid k3
            clear k1 k2 k3
            go_wp2_with fail
            refine bodyPost_ret (v := .tuple #[.int .u64 (σ.top : Int), .slice va 0 vc, .bool true, .bool true]) (by simp [results, Try.results11, go_sem]) rfl ?_
            exact ⟨.slice va 0 vc, rfl, ⟨rfl, .inl ⟨_, _, rfl, rfl⟩⟩, K72.out, K73.out⟩
        | false =>
          cases t2 : ((σ.fin : Int) == 2) with
          | true =>
            have hv : Bz = true := by rw [HBZ.out]; rw [tl, HC.out, te, tt, t0, t2]; rfl
            subst hv
            rw [if_pos rfl]
            go_enter Try.func11, Try.ntmps11
            go_upto_region 2 with (fail)
            rw [HMAX.out]
            rcases htest with ht | ⟨ht, rfl⟩
            all_goals
              go_wp2_with fail
              go_quiet (fail)
              go_wp2_with fail
              go_quiet (fail)
              go_wp2_with fail
              refine (chunk_any _ p F σ σ.top 0 (HH.out.keep (by repeat (first | exact Touch.refl _ _ | refine Touch.drewN ?_ _ | refine Touch.drew ?_))) (by omega)).mono ?_
              rw [(Bool.and_eq_true_iff.1 HBZ.out.symm).2]
              rintro e w7 ⟨v7, rfl, k1, k2, k3⟩
              obtain ⟨va, vc, hve⟩ := k1.form
              subst hve
              have K71 := Lib.hid k1
              have K72 : Hid (StepV w p F (chunkS σ σ.top 0) w7 (.slice va 0 vc)) := Lib.hid (StepV.trans (w := w) (F' := F) (Touch.mono (ks := []) (by repeat (first | exact Touch.refl _ _ | refine Touch.drewN ?_ _ | refine Touch.drew ?_)) (by simp)) (fun g hg => .inl hg) k2)
              have K73 := Lib.hid k3
              clear k1 k2 k3
              go_wp2_with fail
              refine bodyPost_ret (v := .tuple #[.int .u64 (σ.top : Int), .slice va 0 vc, .bool true, .bool true]) (by simp [results, Try.results11, go_sem]) rfl ?_
              exact ⟨.slice va 0 vc, rfl, ⟨rfl, .inl ⟨_, _, rfl, rfl⟩⟩, K72.out, K73.out⟩
          | false =>
            have hv : Bz = false := by rw [HBZ.out]; rw [HC.out, t0, t2]; simp
            subst hv
            rw [if_neg (by simp)]
            go_enter Try.func11, Try.ntmps11
            go_upto_region 2 with (fail)
            rw [HMAX.out]
            rcases htest with ht | ⟨ht, rfl⟩
            all_goals
              go_wp2_with fail
              go_quiet (fail)
              go_wp2_with fail
              go_quiet (fail)
              go_wp2_with fail
              refine bodyPost_ret (v := .tuple #[.int .u64 0, .slice none 0 0, .bool false, .bool false]) (by simp [results, Try.results11, go_sem]) rfl ?_
              exact ⟨.slice none 0 0, rfl, ⟨rfl, .inl ⟨_, _, rfl, rfl⟩⟩, StepV.same HH.out (by repeat (first | exact Touch.refl _ _ | refine Touch.drewN ?_ _ | refine Touch.drew ?_)) (by simp [own]), by simp⟩

theorem next_any (w : World) (p : Nat) (F : List Nat) (σ : Snd) (n : Int) (h : IsSnd w p F σ) (hn : n ≤ 9223372036854775807) :
    Calls Try.prog 11 #[.pointer (some ⟨p, 0, none⟩), .int .i64 n] w (NextP w p F (nextS σ n.toNat)) := by
  cases hr : σ.reset with
  | true => exact next_reset w p F σ n h hr
  | false =>
    by_cases hn0 : 0 < n
    · cases hl : σ.lost with
      | cons r rest => exact next_lost w p F σ n r.1 r.2 rest h hn hn0 hr hl
      | nil =>
        by_cases hm : 0 < min σ.b.length σ.max - σ.top
        · exact next_new w p F σ n h hn hn0 hr hl hm
        · exact next_zero w p F σ n h hn hr (.inr ⟨hl, by omega⟩)
    · exact next_zero w p F σ n h hn hr (.inl (by omega))
end Go.Proofs.Ytmidlielcioinaa
