/- The contract of the document's Ack where just the last of those that were sent is open, and is acknowledged. Conditions: the ledger is in order; the times are small. -/
import Derived.Test.YthnokfchebmjiaaRs
import Derived.Test.YthnokfchebmjiaaLb
namespace Go.Proofs.Ythnokfchebmjiaa
open Go.RowKit

theorem wasN_last (old : List Pkt) (s : Pkt) (h : ∀ t ∈ old, t.pn < s.pn) : wasN s.pn s.pn (old ++ [s]) = 1 := by
  unfold wasN
  rw [List.filter_append, List.length_append]
  have : old.filter (fun t => decide (s.pn ≤ t.pn) && decide (t.pn ≤ s.pn)) = [] := List.filter_eq_nil_iff.2 (fun t ht => by have := h t ht; simp; omega)
  rw [this]
  simp
/-- The things make the ledger, with the blocks that it had. -/
theorem Own.isR2 {w wk : World} {p : Nat} {F : List Nat} {ρ : RL} {L : List Thing} {aS aO : Option Addr} {cS cO : Nat} (h : Own w F wk (tK p (rcells ρ aS cS aO cO) 68 :: tV 30 4 (.slice aS ρ.sent.length cS) ρ.sent.length (pk4 ρ.sent) :: tV 4 1 (.slice aO ρ.sent.length cO) ρ.sent.length (blv ρ.opn) :: L)) (hF : F = p :: (own (.slice aS ρ.sent.length cS) ++ own (.slice aO ρ.sent.length cO))) (hok : ρ.Ok) : IsR wk p F ρ := by
  obtain ⟨h1, h2, h3⟩ := h
  obtain ⟨p1, p2⟩ := List.pairwise_cons.1 h2
  obtain ⟨p3, p4⟩ := List.pairwise_cons.1 p2
  have q0 := h1 _ (List.mem_cons_self ..)
  have q1 := h1 _ (List.mem_cons_of_mem _ (List.mem_cons_self ..))
  have q2 := h1 _ (List.mem_cons_of_mem _ (List.mem_cons_of_mem _ (List.mem_cons_self ..)))
  exact ⟨aS, cS, aO, cO, q0.1, q1.1, q2.1, hF, fun hm => p1 _ (List.mem_cons_self ..) p (by simp [tK]) hm, fun hm => p1 _ (List.mem_cons_of_mem _ (List.mem_cons_self ..)) p (by simp [tK]) hm, p3 _ (List.mem_cons_self ..), hok⟩
/-- All are closed, the greatest one is s. -/
def shutR (ρ : RL) (s : Pkt) : RL := { ρ with opn := List.replicate ρ.sent.length false, top := (s.pn : Int) }
theorem shutR_shut (ρ : RL) (s : Pkt) : (shutR ρ s).Shut := fun _ hb => (List.mem_replicate.1 hb).2
theorem shutR_ok {ρ : RL} (h : ρ.Ok) {s : Pkt} (hs : s ∈ ρ.sent) : (shutR ρ s).Ok := ⟨by simp [shutR], h.few, ⟨by show -1 ≤ (s.pn : Int); omega, by have := (h.each s hs).1; show (s.pn : Int) ≤ _; omega⟩, h.times, h.each⟩
theorem sampR_shut (ρ : RL) (n d : Nat) (h : ρ.Shut) : (sampR ρ n d).Shut := by
  unfold sampR
  split <;> exact h
theorem sampR_samp (ρ : RL) (n d : Nat) : (sampR ρ n d).samp = true := by
  unfold sampR
  split
  · next h => exact h
  · rfl

set_option maxHeartbeats 8000000 in
set_option maxRecDepth 100000 in
theorem ackR_any (w : World) (p : Nat) (F : List Nat) (ρ : RL) (s : Pkt) (old : List Pkt) (ar : Option Addr) (cr_ now delay : Nat) (h : IsR w p F ρ) (hsent : ρ.sent = old ++ [s]) (hopn : ρ.opn = List.replicate old.length false ++ [true]) (hold : ∀ t ∈ old, t.pn < s.pn) (htop : ρ.top < (s.pn : Int)) (heag : s.eager = true)
    (hnow : now ≤ 1099511627776) (hdel : delay < 18446744073709551616) (hr : Rd w 2 (.slice ar 1 cr_) 1 (cr [(s.pn, s.pn)])) (hrF : ∀ g ∈ own (.slice ar 1 cr_), g ∉ F) :
    Calls Try.prog 13 #[.pointer (some ⟨p, 0, none⟩), .slice ar 1 cr_, .int .u64 (now : Int), .int .u64 (delay : Int)] w fun e w' => ∃ v1, e = .returned (.tuple #[v1, .slice none 0 0, .int .i64 0]) ∧ Sl w' 28 1 v1 1 (us [s.pn]) ∧ IsR w' p F (sampR (shutR ρ s) (now - s.when_) delay) ∧ Touch F w w' ∧ ∀ g ∈ own v1, w.heap.size ≤ g := by
  have HH := Lib.hid h
  have HR := Lib.hid hr
  have HRF := Lib.hid hrF
  have HWN : Hid (wasN s.pn s.pn ρ.sent = 1) := Lib.hid (by rw [hsent]; exact wasN_last old s hold)
  have hps : s.pn ≤ 4611686018427387903 := (h.ok.each s (by rw [hsent]; simp)).1
  have hlen : ρ.sent.length = old.length + 1 := by rw [hsent]; simp
  have hfew := h.ok.few
  have HSE := Lib.hid hsent
  have HOP := Lib.hid hopn
  have HTP := Lib.hid htop
  have HEA := Lib.hid heag
  obtain ⟨aS, cS, aO, cO, h1, h2, h3, hF, d1, d2, d3, hok⟩ := h
  have HW0 := Lib.hid (IsR.own h1 h2 h3 hF d1 d2 d3)
  have HF := Lib.hid hF
  have HLN := Lib.hid hok.ln
  have HOK := Lib.hid hok
  clear h1 h2 h3 hF d1 d2 d3 hok hr hrF hsent hopn hold htop heag
  go_enter Try.func13, Try.ntmps13
  go_wp2_with fail
  go_loopw [11] (fun i wr => (i = .int .i64 0 ∨ i = .int .i64 1) ∧ Hid (Touch [] w wr)) (fun i _ => 1 - (intOf i).toNat)
  case atStart => exact ⟨.inl rfl, Lib.hid (Touch.refl _ _)⟩
  case round =>
    obtain ⟨hk, HT⟩ := hrel
    rcases hk with rfl | rfl
    · obtain ⟨g, o, rfl⟩ := HR.out.some (by omega)
      obtain ⟨c1, c2, hg⟩ := (HR.out.touch HT.out (by simp)).two rfl 0 (s.pn, s.pn) rfl
      simp only [Nat.zero_mul, Nat.add_zero] at c1 c2
      go_wp2_with fail
      go_region_held3 (fun w' => w'.cell? ⟨g, o, none⟩ = some (.int .u64 (s.pn : Int)) ∧ w'.cell? ⟨g, o + 1, none⟩ = some (.int .u64 (s.pn : Int))) (go_keep) (first | (go_at_call 29; refine (was_any _ p F ρ s.pn s.pn (HH.out.touch (HT.out.drew) (by simp))).mono ?_; rw [HWN.out]; rintro e w2 ⟨rfl, k1⟩; have K1 := Lib.hid (HT.out.drew.trans k1 (by simp)); obtain ⟨d1, d2, dg⟩ := (HR.out.touch K1.out (by simp)).two rfl 0 (s.pn, s.pn) rfl; simp only [Nat.zero_mul, Nat.add_zero] at d1 d2; clear k1) | (go_at_call 29; refine (was_any _ p F ρ s.pn s.pn (HH.out.touch K1.out (by simp))).mono ?_; rw [HWN.out]; rintro e w3 ⟨rfl, k1⟩; have K2 := Lib.hid (K1.out.trans k1 (by simp)); obtain ⟨e1, e2, eg⟩ := (HR.out.touch K2.out (by simp)).two rfl 0 (s.pn, s.pn) rfl; simp only [Nat.zero_mul, Nat.add_zero] at e1 e2; clear k1))
      all_goals go_wp2_with fail
      all_goals go_roundw
      all_goals first | exact ⟨.inr rfl, K2⟩ | (simp [intOf])
    · have HT1 := HT
      go_wp2_with fail
      go_loopw [12, 13, 14] (fun s12 s13 i wx => ∃ k : Nat, k ≤ ρ.sent.length ∧ i = .int .i64 (k : Int) ∧ ((k ≤ old.length ∧ s12 = .slice none 0 0 ∧ s13 = .int .i64 (-1) ∧ Hid (Touch [] w wx)) ∨ (k = ρ.sent.length ∧ ∃ a1 c1, s12 = .slice a1 1 c1 ∧ s13 = .int .i64 (old.length : Int) ∧ Hid (Own w F wx (tV 28 1 (.slice a1 1 c1) (0 + 1) (us [s.pn]) :: tK p (rcells ρ aS cS aO cO) 68 :: tV 30 4 (.slice aS ρ.sent.length cS) ρ.sent.length (pk4 ρ.sent) :: tV 4 1 (.slice aO ρ.sent.length cO) ρ.sent.length (blv (List.replicate ρ.sent.length false)) :: [])) ∧ Hid (∀ g ∈ own (.slice a1 1 c1), w.heap.size ≤ g)))) (fun _ _ i _ => ρ.sent.length - (intOf i).toNat)
      case atStart => exact ⟨0, by omega, by simp, .inl ⟨by omega, rfl, rfl, HT⟩⟩
      case round =>
        obtain ⟨k, hk, rfl, hkk⟩ := hrel
        rcases hkk with ⟨hko, rfl, rfl, HT⟩ | ⟨rfl, a1, c1, rfl, rfl, HW, HNW⟩
        · have HWk := Lib.hid (HW0.out.keep HT.out)
          have hpk := HWk.out.get (T := tK p (rcells ρ aS cS aO cO) 68) (by simp)
          have hsk := HWk.out.get (T := tV 30 4 (.slice aS ρ.sent.length cS) ρ.sent.length (pk4 ρ.sent)) (by simp)
          have hok := HWk.out.get (T := tV 4 1 (.slice aO ρ.sent.length cO) ρ.sent.length (blv ρ.opn)) (by simp)
          have c0 := IsBlk.cell hpk 0
          have c1 := IsBlk.cell hpk 1
          have cl := IsBlk.lt hpk
          simp only [rcells, List.getElem?_cons_zero, List.getElem?_cons_succ] at c0 c1
          have hlt2 : (k : Int) < (ρ.sent.length : Int) := by omega
          by_cases hkl : k < old.length
          · have hb : ρ.opn[k]? = some false := by rw [HOP.out, List.getElem?_append_left (by simp; exact hkl)]; simp [hkl]
            obtain ⟨g2, o2, rfl, hg2, b0, _⟩ := Sl.bool hok HLN.out hb
            clear hpk hsk hok hb
            go_wp2_with fail
            go_roundw
            case rel => exact ⟨k + 1, by omega, by go_num, .inl ⟨by omega, rfl, rfl, HT⟩⟩
            case measure => simp [intOf]; omega
          · obtain rfl : k = old.length := by omega
            have hb : ρ.opn[old.length]? = some true := by rw [HOP.out, List.getElem?_append_right (by simp)]; simp
            have hsn : ρ.sent[old.length]? = some s := by rw [HSE.out, List.getElem?_append_right (by omega)]; simp
            obtain ⟨g2, o2, rfl, hg2, b0, bf, bo⟩ := Sl.bool hok HLN.out hb
            obtain ⟨g3, o3, rfl, hg3, q0, q1, q2, q3⟩ := Sl.pkt hsk rfl hsn
            have HIN : Hid (hasB s.pn [(s.pn, s.pn)] = true) := Lib.hid (by simp [hasB])
            clear hpk hsk hok hb hsn
            go_wp2_with fail
            refine (inR_any _ _ s.pn [(s.pn, s.pn)] (HR.out.touch HT.out (by simp)) (by simp)).mono ?_
            rw [HIN.out]
            rintro e w3 ⟨rfl, k3⟩
            have HW3 := Lib.hid (HWk.out.keep k3)
            have hpk := HW3.out.get (T := tK p (rcells ρ (some ⟨g3, o3, none⟩) cS (some ⟨g2, o2, none⟩) cO) 68) (by simp)
            have hsk := HW3.out.get (T := tV 30 4 (.slice (some ⟨g3, o3, none⟩) ρ.sent.length cS) ρ.sent.length (pk4 ρ.sent)) (by simp)
            have hsn : ρ.sent[old.length]? = some s := by rw [HSE.out, List.getElem?_append_right (by omega)]; simp
            have hb : ρ.opn[old.length]? = some true := by rw [HOP.out, List.getElem?_append_right (by simp)]; simp
            clear c0 c1 cl hg2 b0 bf bo hg3 q0 q1 q2 q3 k3
            obtain ⟨_, _, e3, hg3, q0, q1, q2, q3⟩ := Sl.pkt hsk rfl hsn
            simp only [Option.some.injEq, Addr.mk.injEq, and_true] at e3
            obtain ⟨rfl, rfl⟩ := e3
            have c0 := IsBlk.cell hpk 0
            have cl := IsBlk.lt hpk
            simp only [rcells, List.getElem?_cons_zero] at c0
            obtain ⟨i1, hi1, hy0, hy1, hy2⟩ := info_parts info28
            clear hpk hsk hsn
            go_upto_region 13 with (at_builtin; refine wpList_append_sl _ rfl _ _ 37 rfl 28 i1 _ 1 8 und37 hi1 hy0 hy1 hy2 rfl (by omega) (.slice none 0 0) 0 [] rfl (Sl.nil _ _ _) _ 1 (us [s.pn]) rfl (one_num _ [s.pn]) (us_one _) (by unfold maxLen; omega) (by omega) fun a3 c3 w4 k1 k2 k3 k4 => ?_)
            have HW4 := Lib.hid (HW3.out.new (((Touch.refl [] _).alloc _).trans k2 (by simp)) (tV 28 1 (.slice a3 (0 + 1) c3) (0 + 1) (us [s.pn])) k1 (fun g hg => by have := k3 g hg; simp [World.size_alloc] at this; omega))
            have HNW : Hid (∀ g ∈ own (.slice a3 1 c3), w.heap.size ≤ g) := Lib.hid (fun g hg => by have := k3 g hg; simp [World.size_alloc] at this; have := HW3.out.tch.size; omega)
            clear c0 cl hg3 q0 q1 q2 q3 k1 k2 k3 k4
            have hpk := HW4.out.get (T := tK p (rcells ρ (some ⟨g3, o3, none⟩) cS (some ⟨g2, o2, none⟩) cO) 68) (by simp)
            have hok := HW4.out.get (T := tV 4 1 (.slice (some ⟨g2, o2, none⟩) ρ.sent.length cO) ρ.sent.length (blv ρ.opn)) (by simp)
            have HSLO := Lib.hid hok
            obtain ⟨_, _, e2, hg2, b0, bf, bo⟩ := Sl.bool hok HLN.out hb
            simp only [Option.some.injEq, Addr.mk.injEq, and_true] at e2
            obtain ⟨rfl, rfl⟩ := e2
            have c1 := IsBlk.cell hpk 1
            have cl := IsBlk.lt hpk
            simp only [rcells, List.getElem?_cons_zero, List.getElem?_cons_succ] at c1
            have HBO := Lib.hid bo
            clear hpk hok hb bo
            go_wp2_with fail
            have HW5 := Lib.hid (HW4.out.at (i := 3) rfl ((Touch.refl _ _).set (p := ⟨g2, o2 + old.length, none⟩) (.inl HBO.out) (.bool false)) (tV 4 1 (.slice (some ⟨g2, o2, none⟩) ρ.sent.length cO) ρ.sent.length (blv (List.replicate ρ.sent.length false))) (by
              have := Sl.set HSLO.out old.length (.bool false)
              rw [show (blv ρ.opn).set old.length (.bool false) = blv (List.replicate ρ.sent.length false) from by
                rw [HOP.out, hlen, blv_append, List.set_append_right _ _ (by simp [blv_len]), blv_len, List.length_replicate, Nat.sub_self, List.replicate_succ', blv_append]; rfl] at this
              exact this) (fun g hg => .inl hg))
            go_roundw
            case rel => exact ⟨old.length + 1, by omega, by go_num, .inr ⟨by omega, a3, c3, rfl, rfl, HW5, HNW⟩⟩
            case measure => simp [intOf]; omega
        · have hpk := HW.out.get (T := tK p (rcells ρ aS cS aO cO) 68) (by simp)
          have hsk := HW.out.get (T := tV 30 4 (.slice aS ρ.sent.length cS) ρ.sent.length (pk4 ρ.sent)) (by simp)
          have hsn : ρ.sent[old.length]? = some s := by rw [HSE.out, List.getElem?_append_right (by omega)]; simp
          obtain ⟨g3, o3, rfl, hg3, q0, q1, q2, q3⟩ := Sl.pkt hsk rfl hsn
          have c0 := IsBlk.cell hpk 0
          have c2 := IsBlk.cell hpk 2
          have cl := IsBlk.lt hpk
          simp only [rcells, List.getElem?_cons_zero, List.getElem?_cons_succ] at c0 c2
          have hol : (old.length : Int) < (ρ.sent.length : Int) := by omega
          have htb := HOK.out.top
          have htp := HTP.out
          have hw := HOK.out.each s (by rw [HSE.out]; simp)
          clear hpk hsk hsn
          by_cases ht0 : ρ.top < 0
          · have z1 : decide (ρ.top < 0) = true := decide_eq_true ht0
            clear ht0
            go_wp2_with fail
            go_quiet (fail)
            obtain ⟨V, hV⟩ : ∃ V, V = wr.drewN nq := ⟨_, rfl⟩
            rw [← hV]
            have HV := Lib.hid (HW.out.keep (w' := V) (by rw [hV]; exact (Touch.refl _ _).drewN _))
            clear hV c0 c2 cl hg3 q0 q1 q2 q3
            have hpk := HV.out.get (T := tK p (rcells ρ (some ⟨g3, o3, none⟩) cS aO cO) 68) (by simp)
            have hsk := HV.out.get (T := tV 30 4 (.slice (some ⟨g3, o3, none⟩) ρ.sent.length cS) ρ.sent.length (pk4 ρ.sent)) (by simp)
            have hsn : ρ.sent[old.length]? = some s := by rw [HSE.out, List.getElem?_append_right (by omega)]; simp
            obtain ⟨_, _, e3, hg3, q0, q1, q2, q3⟩ := Sl.pkt hsk rfl hsn
            simp only [Option.some.injEq, Addr.mk.injEq, and_true] at e3
            obtain ⟨rfl, rfl⟩ := e3
            have c0 := IsBlk.cell hpk 0
            have c2 := IsBlk.cell hpk 2
            have f2 := IsBlk.frozen hpk 2
            have cl := IsBlk.lt hpk
            simp only [rcells, List.getElem?_cons_zero, List.getElem?_cons_succ] at c0 c2
            clear hpk hsk hsn
            go_upto_region 17 with (fail)
            obtain ⟨U, hU⟩ : ∃ U, U = V.setCell ⟨p, 2, none⟩ (.int .i64 (s.pn : Int)) := ⟨_, rfl⟩
            rw [← hU]
            have HU := Lib.hid (HV.out.set (i := 1) rfl 2 (.int .i64 (s.pn : Int)))
            rw [← hU] at HU
            clear hU c0 c2 f2 cl hg3 q0 q1 q2 q3
            have hpk := HU.out.get (T := tK p ((rcells ρ (some ⟨g3, o3, none⟩) cS aO cO).set 2 (.int .i64 (s.pn : Int))) 68) (by simp)
            have hsk := HU.out.get (T := tV 30 4 (.slice (some ⟨g3, o3, none⟩) ρ.sent.length cS) ρ.sent.length (pk4 ρ.sent)) (by simp)
            have hsn : ρ.sent[old.length]? = some s := by rw [HSE.out, List.getElem?_append_right (by omega)]; simp
            obtain ⟨_, _, e3, hg3, q0, q1, q2, q3⟩ := Sl.pkt hsk rfl hsn
            simp only [Option.some.injEq, Addr.mk.injEq, and_true] at e3
            obtain ⟨rfl, rfl⟩ := e3
            rw [HEA.out] at q3
            have c0 := IsBlk.cell hpk 0
            have cl := IsBlk.lt hpk
            simp only [rcells, List.set_cons_zero, List.set_cons_succ, List.getElem?_cons_zero] at c0
            have HSR : Hid (IsR U p F (shutR ρ s)) := Lib.hid (Own.isR2 (L := []) (ρ := shutR ρ s) HU.out.tail HF.out (shutR_ok HOK.out (by rw [HSE.out]; simp)))
            clear hpk hsk hsn
            go_wp2_with fail
            refine (sampleR_any _ p F (shutR ρ s) now s.when_ delay HSR.out hnow hdel (by omega)).mono ?_
            rintro e w5 ⟨rfl, k1, k2⟩
            have K1 := Lib.hid k1
            have K2 := Lib.hid k2
            clear k1 k2 c0 cl hg3 q0 q1 q2 q3
            go_wp2_with fail
            refine (tickR_any _ p F _ now K1.out (sampR_shut _ _ _ (shutR_shut ρ s)) (sampR_samp _ _ _)).mono ?_
            rintro e w6 ⟨rfl, k3⟩
            have K3 := Lib.hid k3
            clear k3
            go_wp2_with fail
            refine bodyPost_ret (v := .tuple #[.slice a1 1 c1, .slice none 0 0, .int .i64 0]) (by simp [results, Try.results13, go_sem]) rfl ?_
            have hS := HU.out.get (T := tV 28 1 (.slice a1 1 c1) (0 + 1) (us [s.pn])) (by simp)
            have hpo : ∀ g ∈ own (.slice a1 1 c1), g ∉ [p] := fun g hg hm => (List.pairwise_cons.1 HU.out.pw).1 (tK p ((rcells ρ (some ⟨g3, o3, none⟩) cS aO cO).set 2 (.int .i64 (s.pn : Int))) 68) (by simp) g hg hm
            exact ⟨_, rfl, ((show Sl U 28 1 (.slice a1 1 c1) 1 (us [s.pn]) from hS).touch K2.out hpo).touch K3.out (by simp), K1.out.touch K3.out (by simp), (HU.out.tch.trans K2.out (fun g hg => .inl (by rw [HF.out]; simp at hg; simp [hg]))).trans K3.out (by simp), HNW.out⟩
          · have z1 : decide (ρ.top < 0) = false := decide_eq_false ht0
            have wt : IntKind.u64.wrap ρ.top = ρ.top := IntWalk.u64_in _ (by omega)
            have z2 : decide (ρ.top < (s.pn : Int)) = true := decide_eq_true htp
            go_wp2_with fail
            go_quiet (fail)
            obtain ⟨V, hV⟩ : ∃ V, V = wr.drewN nq := ⟨_, rfl⟩
            rw [← hV]
            have HV := Lib.hid (HW.out.keep (w' := V) (by rw [hV]; exact (Touch.refl _ _).drewN _))
            clear hV c0 c2 cl hg3 q0 q1 q2 q3
            have hpk := HV.out.get (T := tK p (rcells ρ (some ⟨g3, o3, none⟩) cS aO cO) 68) (by simp)
            have hsk := HV.out.get (T := tV 30 4 (.slice (some ⟨g3, o3, none⟩) ρ.sent.length cS) ρ.sent.length (pk4 ρ.sent)) (by simp)
            have hsn : ρ.sent[old.length]? = some s := by rw [HSE.out, List.getElem?_append_right (by omega)]; simp
            obtain ⟨_, _, e3, hg3, q0, q1, q2, q3⟩ := Sl.pkt hsk rfl hsn
            simp only [Option.some.injEq, Addr.mk.injEq, and_true] at e3
            obtain ⟨rfl, rfl⟩ := e3
            have c0 := IsBlk.cell hpk 0
            have c2 := IsBlk.cell hpk 2
            have f2 := IsBlk.frozen hpk 2
            have cl := IsBlk.lt hpk
            simp only [rcells, List.getElem?_cons_zero, List.getElem?_cons_succ] at c0 c2
            clear hpk hsk hsn
            go_upto_region 17 with (fail)
            obtain ⟨U, hU⟩ : ∃ U, U = V.setCell ⟨p, 2, none⟩ (.int .i64 (s.pn : Int)) := ⟨_, rfl⟩
            rw [← hU]
            have HU := Lib.hid (HV.out.set (i := 1) rfl 2 (.int .i64 (s.pn : Int)))
            rw [← hU] at HU
            clear hU c0 c2 f2 cl hg3 q0 q1 q2 q3
            have hpk := HU.out.get (T := tK p ((rcells ρ (some ⟨g3, o3, none⟩) cS aO cO).set 2 (.int .i64 (s.pn : Int))) 68) (by simp)
            have hsk := HU.out.get (T := tV 30 4 (.slice (some ⟨g3, o3, none⟩) ρ.sent.length cS) ρ.sent.length (pk4 ρ.sent)) (by simp)
            have hsn : ρ.sent[old.length]? = some s := by rw [HSE.out, List.getElem?_append_right (by omega)]; simp
            obtain ⟨_, _, e3, hg3, q0, q1, q2, q3⟩ := Sl.pkt hsk rfl hsn
            simp only [Option.some.injEq, Addr.mk.injEq, and_true] at e3
            obtain ⟨rfl, rfl⟩ := e3
            rw [HEA.out] at q3
            have c0 := IsBlk.cell hpk 0
            have cl := IsBlk.lt hpk
            simp only [rcells, List.set_cons_zero, List.set_cons_succ, List.getElem?_cons_zero] at c0
            have HSR : Hid (IsR U p F (shutR ρ s)) := Lib.hid (Own.isR2 (L := []) (ρ := shutR ρ s) HU.out.tail HF.out (shutR_ok HOK.out (by rw [HSE.out]; simp)))
            clear hpk hsk hsn
            go_wp2_with fail
            refine (sampleR_any _ p F (shutR ρ s) now s.when_ delay HSR.out hnow hdel (by omega)).mono ?_
            rintro e w5 ⟨rfl, k1, k2⟩
            have K1 := Lib.hid k1
            have K2 := Lib.hid k2
            clear k1 k2 c0 cl hg3 q0 q1 q2 q3
            go_wp2_with fail
            refine (tickR_any _ p F _ now K1.out (sampR_shut _ _ _ (shutR_shut ρ s)) (sampR_samp _ _ _)).mono ?_
            rintro e w6 ⟨rfl, k3⟩
            have K3 := Lib.hid k3
            clear k3
            go_wp2_with fail
            refine bodyPost_ret (v := .tuple #[.slice a1 1 c1, .slice none 0 0, .int .i64 0]) (by simp [results, Try.results13, go_sem]) rfl ?_
            have hS := HU.out.get (T := tV 28 1 (.slice a1 1 c1) (0 + 1) (us [s.pn])) (by simp)
            have hpo : ∀ g ∈ own (.slice a1 1 c1), g ∉ [p] := fun g hg hm => (List.pairwise_cons.1 HU.out.pw).1 (tK p ((rcells ρ (some ⟨g3, o3, none⟩) cS aO cO).set 2 (.int .i64 (s.pn : Int))) 68) (by simp) g hg hm
            exact ⟨_, rfl, ((show Sl U 28 1 (.slice a1 1 c1) 1 (us [s.pn]) from hS).touch K2.out hpo).touch K3.out (by simp), K1.out.touch K3.out (by simp), (HU.out.tch.trans K2.out (fun g hg => .inl (by rw [HF.out]; simp at hg; simp [hg]))).trans K3.out (by simp), HNW.out⟩
end Go.Proofs.Ythnokfchebmjiaa
