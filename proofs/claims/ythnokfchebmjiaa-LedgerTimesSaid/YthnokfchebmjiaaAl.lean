/- The contract of Ack where all was sent. Conditions: the ledger is in order; the ranges lie beside it; the times are small. -/
import Derived.Test.YthnokfchebmjiaaAk
namespace Go.Proofs.Ythnokfchebmjiaa
open Go.RowKit

theorem bad_none {σ : Ldg} {L : List Rng} (h : ackBad σ L = false) {x : Rng} (hx : x ∈ L) : ¬ x.2 < x.1 ∧ whB x.1 x.2 σ.sent = true := by
  unfold ackBad at h
  have := List.any_eq_false.1 h x hx
  simp at this
  exact ⟨by omega, this.2⟩
theorem sampleS_opens (σ : Ldg) (n d : Nat) : (sampleS σ n d).opens = σ.opens ∧ (sampleS σ n d).sent = σ.sent ∧ (sampleS σ n d).tot = σ.tot ∧ (sampleS σ n d).last = σ.last ∧ (sampleS σ n d).largest = σ.largest := by
  unfold sampleS
  split <;> exact ⟨rfl, rfl, rfl, rfl, rfl⟩
theorem top_ok {σ : Ldg} (h : σ.Ok) (s : Nat) (hs : (s : Int) ≤ σ.last) : Ldg.Ok { σ with largest := (s : Int) } := ⟨h.rise, h.each, h.sent, h.most, h.last, ⟨by show -1 ≤ (s : Int); omega, hs⟩, h.times, h.nopen, h.nsent, h.tot⟩
/-- Is there a sample, or a greater number? -/
def ackG (σ : Ldg) (L : List Rng) : Bool := match (goneA σ L).getLast? with
  | none => false
  | some s => decide (σ.largest < (s.pn : Int))
theorem StepK.trans {w w1 w2 : World} {p : Nat} {F F1 : List Nat} {σ : Ldg} (hT : Touch F w w1) (hF : ∀ g ∈ F1, g ∈ F) (h : StepK w1 p F1 σ w2) : StepK w p F σ w2 := by
  obtain ⟨F', k1, k2, k3⟩ := h
  exact ⟨F', k1, hT.trans k2 (fun g hg => .inl (hF g hg)), fun g hg => hF g (k3 g hg)⟩

set_option maxHeartbeats 8000000 in
theorem ack_good (w : World) (p : Nat) (F : List Nat) (σ : Ldg) (ar : Option Addr) (cr_ : Nat) (L : List Rng) (now delay : Nat) (h : IsL w p F σ) (hr : Rd w 2 (.slice ar L.length cr_) L.length (cr L)) (hrF : ∀ g ∈ own (.slice ar L.length cr_), g < w.heap.size ∧ g ∉ F) (hL : L.length ≤ 100000) (hb : ackBad σ L = false) (hnow : now ≤ 1099511627776) (hdel : delay < 18446744073709551616) :
    Calls Try.prog 12 #[.pointer (some ⟨p, 0, none⟩), .slice ar L.length cr_, .int .u64 (now : Int), .int .u64 (delay : Int)] w fun e w' => ∃ v1 v2, e = .returned (.tuple #[v1, v2, .int .i64 0]) ∧ Sl w' 28 1 v1 (goneA σ L).length (us (pns (goneA σ L))) ∧ Sl w' 28 1 v2 (lostL (ackS σ L now delay) now).length (us (pns (lostL (ackS σ L now delay) now))) ∧ StepK w p F (lostS (ackS σ L now delay) now) w' ∧ (∀ g ∈ own v1, w.heap.size ≤ g) ∧ ∀ g ∈ own v2, w.heap.size ≤ g ∧ g ∉ own v1 := by
  have H := Lib.hid h
  have HR := Lib.hid hr
  have HB := Lib.hid hb
  have HRF := Lib.hid hrF
  clear h hr hb hrF
  go_enter Try.func12, Try.ntmps12
  go_wp2_with fail
  go_loopw [17] (fun i wr => ∃ k : Nat, k ≤ L.length ∧ i = .int .i64 (k : Int) ∧ Hid (Touch [] w wr) ∧ Hid (IsBlk wr w.heap.size [.pointer (some ⟨p, 0, none⟩)] 24) ∧ Hid (IsBlk wr (w.heap.size + 1) [.slice ar L.length cr_] 36)) (fun i _ => L.length - (intOf i).toNat)
  case atStart =>
    refine ⟨0, by omega, rfl, Lib.hid (((Touch.refl _ _).alloc _).alloc _), Lib.hid ((IsBlk.new w [.pointer (some ⟨p, 0, none⟩)] 24).touch (ks := []) ((Touch.refl _ _).alloc _) (by simp)), Lib.hid ?_⟩
    have := IsBlk.new (w.alloc (.cells #[.pointer (some ⟨p, 0, none⟩)] 24)) [.slice ar L.length cr_] 36
    rw [World.size_alloc] at this
    exact this
  case round =>
    obtain ⟨k, hk, rfl, HT, HK, HK1⟩ := hrel
    by_cases hlt : k < L.length
    · have hlt' : (k : Int) < (L.length : Int) := by omega
      obtain ⟨x, hx⟩ : ∃ x, L[k]? = some x := ⟨_, List.getElem?_eq_getElem hlt⟩
      obtain ⟨g, o, rfl⟩ := HR.out.some (by omega)
      obtain ⟨c1, c2, hg⟩ := (HR.out.touch HT.out (by simp)).two rfl k x hx
      have kc := HK.out.cell 0
      have kl := HK.out.lt
      simp only [List.getElem?_cons_zero] at kc
      obtain ⟨hok1, hok2⟩ := bad_none HB.out (List.mem_of_getElem? hx)
      have HOK2 := Lib.hid hok2
      obtain ⟨x1, x2⟩ := x
      simp only at c1 c2 hok1 HOK2
      have h12 : ¬ (x2 : Int) < (x1 : Int) := by omega
      clear hx hok2
      go_wp2_with fail
      refine (whole_any _ p F σ x1 x2 (H.out.keep (HT.out.alloc _))).mono ?_
      rw [HOK2.out]
      rintro e w3 ⟨rfl, hT3⟩
      have HT3 := Lib.hid ((HT.out.alloc (.cells #[.int .u64 (x1 : Int), .int .u64 (x2 : Int)] 35)).trans hT3 (by simp))
      have HK3 := Lib.hid ((HK.out.touch (ks := []) ((Touch.refl _ _).alloc _) (by simp)).touch hT3 (by simp))
      have HK13 := Lib.hid ((HK1.out.touch (ks := []) ((Touch.refl _ _).alloc _) (by simp)).touch hT3 (by simp))
      clear hT3
      go_wp2_with fail
      go_roundw
      case rel => exact ⟨k + 1, by omega, by go_num, HT3, HK3, HK13⟩
      case measure => simp [intOf]; omega
    obtain rfl : k = L.length := by omega
    clear hlt
    go_upto_region 9 with fail
    obtain ⟨W3, hW3⟩ : ∃ W3, W3 = (wr.alloc (.cells #[.slice none 0 0] 37)).alloc (.cells #[.int .u64 0, .int .u64 0, .int .i64 0, .bool false] 30) := ⟨_, rfl⟩
    rw [← hW3]
    have HZ : Hid (w.heap.size + 2 ≤ wr.heap.size) := Lib.hid (by have := HK1.out.lt; omega)
    have HK4 : Hid (IsBlk W3 wr.heap.size [.slice none 0 0] 37) := Lib.hid (by rw [hW3]; exact (IsBlk.new wr [.slice none 0 0] 37).touch (ks := []) ((Touch.refl _ _).alloc _) (by simp))
    have HK3 : Hid (IsBlk W3 (wr.heap.size + 1) (pcells noPkt) 30) := Lib.hid (by
      have := IsBlk.new (wr.alloc (.cells #[.slice none 0 0] 37)) (pcells noPkt) 30
      rw [World.size_alloc] at this
      rw [hW3]
      exact this)
    have HT3 : Hid (Touch [] wr W3) := Lib.hid (by rw [hW3]; exact ((Touch.refl _ _).alloc _).alloc _)
    have HTW : Hid (Touch [] w W3) := Lib.hid (HT.out.trans HT3.out (by simp))
    have HPL := Lib.hid H.out.ok
    have HLT := Lib.hid H.out.lt
    obtain ⟨mb, ao, co, q, Fq, m, h1, h2, h3, h4, hF, d1, d2, d3, _, hmt⟩ := H.out
    have H1 := Lib.hid h1
    have HF := Lib.hid hF
    have HQ := Lib.hid (And.intro h2 (And.intro h3 (And.intro h4 (And.intro d1 (And.intro d2 (And.intro d3 hmt))))))
    clear h1 h2 h3 h4 hF d1 d2 d3 hmt
    have HFX : Hid (Fixed w p mb (w.heap.size + 1) w.heap.size (wr.heap.size + 1) wr.heap.size ao co σ (.slice ar L.length cr_)) := Lib.hid (by
      obtain ⟨h2, h3, h4, d1, d2, d3, hm⟩ := HQ.out
      have z1 := HZ.out
      have hrf := HRF.out
      rw [HF.out] at hrf
      exact ⟨HPL.out, H1.out.lt, h2.lt, d1.1, fun g hg => ⟨h3.lt g hg, fun e => d1.2.1 (by rw [← e]; exact hg), fun e => d2.1 (by rw [← e]; exact hg)⟩, fun g hg => ⟨(hrf g hg).1, fun e => (hrf g hg).2 (by simp [e]), fun e => (hrf g hg).2 (by simp [e])⟩, ⟨by omega, by omega, by omega, by omega⟩, ⟨by omega, by omega, by omega, by omega, by omega⟩⟩)
    have HLO : Hid (Acking w W3.drew p mb q (w.heap.size + 1) w.heap.size (wr.heap.size + 1) wr.heap.size ao co σ (.slice ar L.length cr_) L m 0) := Lib.hid (by
      have hd : Touch [] W3 W3.drew := (Touch.refl _ _).drew
      have z1 := HZ.out
      refine ⟨(HK1.out.touch HT3.out (by simp)).touch hd (by simp), HR.out.touch (HTW.out.drew) (by simp), (HK.out.touch HT3.out (by simp)).touch hd (by simp), ?_, ?_, (H1.out.touch HTW.out (by simp)).touch hd (by simp), ?_, (HTW.out.trans hd (by simp)).mono (by simp)⟩
      · rw [goneL_zero]
        exact HK3.out.touch hd (by simp)
      · rw [goneL_zero]
        exact ⟨none, 0, HK4.out.touch hd (by simp), Sl.nil _ _ _, by omega, by simp [pns]⟩
      · rw [restL_zero]
        exact (HQ.out.1.touch HTW.out (by simp)).touch hd (by simp))
    have HDEL := Lib.hid (delete25 W3.drew (.pointer (some ⟨w.heap.size + 1, 0, none⟩)) (.pointer (some ⟨w.heap.size, 0, none⟩)) (.pointer (some ⟨wr.heap.size + 1, 0, none⟩)) (.pointer (some ⟨wr.heap.size, 0, none⟩)) ao σ.opens.length co (pns σ.opens) (fun x => hasB x L) (fun i w' => Acking w w' p mb q (w.heap.size + 1) w.heap.size (wr.heap.size + 1) wr.heap.size ao co σ (.slice ar L.length cr_) L m i) (HQ.out.2.1.touch (HTW.out.drew) (by simp)) (by have := HPL.out.nopen; have := HPL.out.tot; omega) HLO.out (fun i x w' hx hi => by
      obtain ⟨s, hs, rfl⟩ := pns_at hx
      exact ack1_any w w' p mb q _ _ _ _ co m i ao σ (.slice ar L.length cr_) L s HFX.out hi hs (by unfold maxLen; omega)) (fun i w1 w2 hi hT => hi.order HFX.out hT))
    clear hW3
    have hbp : w.heap.size ≠ p := by have := H1.out.lt; omega
    have c0 := (HK.out.touch HT3.out (by simp)).cell 0
    have c1 := (H1.out.touch HTW.out (by simp)).cell 1
    have kl := (HK.out.touch HT3.out (by simp)).lt
    have hl := (H1.out.touch HTW.out (by simp)).lt
    simp only [lcells, List.getElem?_cons_zero, List.getElem?_cons_succ] at c0 c1
    refine wp_region_hold (fun w' => w'.cell? ⟨w.heap.size, 0, none⟩ = some (.pointer (some ⟨p, 0, none⟩))) (fun w' => w'.cell? ⟨p, 1, none⟩ = some (.slice ao σ.opens.length co)) [9] [false, false, false, false, false, false, false, false, false, false] (by kernel_rfl) (by kernel_rfl) (by go_keep) (by go_keep) (fun hS => ?_)
    refine takeG (i := 0) (v := ?_) rfl (by kernel_rfl) (by kernel_rfl) (by kernel_rfl) (by kernel_rfl) (fun _ _ _ h => h) (Or.inl ⟨by rfl, ?_⟩) hS (fun hT => ?_)
    rotate_left
    · intro w hC; (try dsimp only at hC); go_simp; try with_reducible rfl
    clear hS
    have hS := hT
    clear hT
    simp only [Act.put, List.setIfInBounds_toArray, List.set_cons_zero] at hS ⊢
    refine takeG (i := 1) (v := ?_) rfl (by kernel_rfl) (by kernel_rfl) (by kernel_rfl) (by kernel_rfl) (fun _ _ _ h => h) (Or.inl ⟨by rfl, ?_⟩) hS (fun hT => ?_)
    rotate_left
    · intro w hC; (try dsimp only at hC); go_simp; try with_reducible rfl
    clear hS
    have hS := hT
    clear hT
    simp only [Act.put, List.setIfInBounds_toArray, List.set_cons_zero, List.set_cons_succ] at hS ⊢
    refine takeG (i := 2) (v := ?_) rfl (by kernel_rfl) (by kernel_rfl) (by kernel_rfl) (by kernel_rfl) (fun _ _ _ h => h) (Or.inl ⟨by rfl, ?_⟩) hS (fun hT => ?_)
    rotate_left
    · intro w hC; (try dsimp only at hC); go_simp; try with_reducible rfl
    clear hS
    have hS := hT
    clear hT
    simp only [Act.put, List.setIfInBounds_toArray, List.set_cons_zero, List.set_cons_succ] at hS ⊢
    refine takeG (i := 3) (v := ?_) rfl (by kernel_rfl) (by kernel_rfl) (by kernel_rfl) (by kernel_rfl) (fun _ _ _ h => h) (Or.inl ⟨by rfl, ?_⟩) hS (fun hT => ?_)
    rotate_left
    · intro w hC; (try dsimp only at hC); go_simp; try with_reducible rfl
    clear hS
    have hS := hT
    clear hT
    simp only [Act.put, List.setIfInBounds_toArray, List.set_cons_zero, List.set_cons_succ] at hS ⊢
    refine takeG1 (i := 4) (v := ?_) rfl (by kernel_rfl) (by kernel_rfl) (by kernel_rfl) (by kernel_rfl) (by kernel_rfl) (by kernel_rfl) (fun _ _ _ h => h) (Or.inl ⟨by rfl, ?_⟩) hS (fun hT => ?_)
    rotate_left
    · intro w hC; (try dsimp only at hC); go_simp; try with_reducible rfl
    clear hS
    have hS := hT
    clear hT
    simp only [Act.put, List.setIfInBounds_toArray, List.set_cons_zero, List.set_cons_succ] at hS ⊢
    refine takeG (i := 5) (v := ?_) rfl (by kernel_rfl) (by kernel_rfl) (by kernel_rfl) (by kernel_rfl) (fun _ _ _ h => h) (Or.inl ⟨by rfl, ?_⟩) hS (fun hT => ?_)
    rotate_left
    · intro w hC; (try dsimp only at hC); go_simp; try with_reducible rfl
    clear hS
    have hS := hT
    clear hT
    simp only [Act.put, List.setIfInBounds_toArray, List.set_cons_zero, List.set_cons_succ] at hS ⊢
    refine oneG (i := 6) (by kernel_rfl) rfl (fun K hK => ?_)
    (go_simp; go_at_call 24; refine HDEL.out.mono ?_; rintro e w5 ⟨a', c', rfl, k1, k2, k3⟩; have K1 := Lib.hid k1; have K2 := Lib.hid k2; have K3 := Lib.hid k3; have e0 := k3.k2.cell 0; have e1 := k3.head.cell 1; have e2 := k3.head.frozen 1; have e3 := k3.head.lt; have e4 := k3.k2.lt; simp only [lcells, List.getElem?_cons_zero, List.getElem?_cons_succ] at e0 e1; clear k1 k2 k3)
    refine hK.out _ _ ⟨?_, fun hu => ?_⟩ (fun hT => ?_)
    · exact e0
    · exact e1
    clear hS
    have hS := hT
    clear hT
    simp only [List.setIfInBounds_toArray, List.set_cons_zero, List.set_cons_succ] at hS ⊢
    clear hK K
    refine takeG (i := 7) (v := ?_) rfl (by kernel_rfl) (by kernel_rfl) (by kernel_rfl) (by kernel_rfl) (fun _ _ _ h => h) (Or.inl ⟨by rfl, ?_⟩) hS (fun hT => ?_)
    rotate_left
    · intro w hC; (try dsimp only at hC); go_simp; try with_reducible rfl
    clear hS
    have hS := hT
    clear hT
    simp only [Act.put, List.setIfInBounds_toArray, List.set_cons_zero, List.set_cons_succ] at hS ⊢
    refine takeG (i := 8) (v := ?_) rfl (by kernel_rfl) (by kernel_rfl) (by kernel_rfl) (by kernel_rfl) (fun _ _ _ h => h) (Or.inl ⟨by rfl, ?_⟩) hS (fun hT => ?_)
    rotate_left
    · intro w hC; (try dsimp only at hC); go_simp; try with_reducible rfl
    clear hS
    have hS := hT
    clear hT
    simp only [Act.put, List.setIfInBounds_toArray, List.set_cons_zero, List.set_cons_succ] at hS ⊢
    refine oneG (i := 9) (by kernel_rfl) rfl (fun K hK => ?_)
    go_simp
    refine hK.out _ _ ⟨?_, fun hu => ?_⟩ (fun hT => ?_)
    · exact (World.cell?_setCell_far _ _ _ _ (fun e => hbp (by simpa using e.symm))).trans e0
    · exact absurd hu (by decide)
    clear hS
    have hS := hT
    clear hT
    simp only [List.setIfInBounds_toArray, List.set_cons_zero, List.set_cons_succ] at hS ⊢
    clear hK K
    refine wpAnyG_done (by kernel_rfl) ?_ _
    clear hS
    obtain ⟨hx1, hx2, hx3, d1, d2, d3, hmt⟩ := HQ.out
    have HE1 : Hid (kept (fun x => hasB x L) (pns σ.opens) σ.opens.length = pns (leftA σ L).opens) := Lib.hid (by rw [pns_kept]; rfl)
    have HE2 : Hid (goneL σ.opens (fun x => hasB x L) σ.opens.length = goneA σ L) := Lib.hid (goneL_all _ _)
    have HE3 : Hid (restL σ.opens (fun x => hasB x L) σ.opens.length = (leftA σ L).opens) := Lib.hid (restL_all _ _)
    rw [HE1.out] at K1 K2 ⊢
    have HBX := Lib.hid K3.out.box
    have HG3 := Lib.hid K3.out.k3
    rw [HE2.out] at HBX HG3
    have HMP := Lib.hid K3.out.map
    rw [HE3.out] at HMP
    obtain ⟨a4, c4, g1, g2, g3, g4⟩ := HBX.out
    obtain ⟨W5, hW5⟩ : ∃ W5, W5 = w5.setCell ⟨p, 1, none⟩ (.slice a' (pns (leftA σ L).opens).length c') := ⟨_, rfl⟩
    rw [← hW5]
    have hT5 : Touch [p] w5 W5 := by rw [hW5]; exact (Touch.refl [p] w5).set (.inl (by simp)) _
    have hpw := H1.out.lt
    have HB4 := Lib.hid (g1.touch hT5 (by simp; omega))
    have HS4 := Lib.hid (g2.touch hT5 (fun g hg hm => by have := (g4 g hg).1; simp at hm; omega))
    have HB3 := Lib.hid (HG3.out.touch hT5 (by simp; omega))
    have HB2 := Lib.hid (K3.out.k2.touch hT5 (by simp; exact hbp))
    have HG4 := Lib.hid g4
    have HKS : Hid (StepK w p F (leftA σ L) W5) := Lib.hid (by
      refine IsL.cut (w1 := w5) (n := (pns (leftA σ L).opens).length) HF.out hx3 d1 d2 d3 K3.out.touch K1.out (pns_len _) K2.out HMP.out hT5 ?_ rfl hmt (left_ok HPL.out _)
      have := K3.out.head.set 1 (.slice a' (pns (leftA σ L).opens).length c')
      rw [hW5]
      rw [pns_len] at this ⊢
      exact this)
    clear g1 g2 g3 g4 hT5 hW5 e0 e1 e2 e3 e4 hx1 hx2 hx3 d1 d2 d3 c0 c1 kl hl
    obtain ⟨F', i1, i2, i3⟩ := HKS.out
    have HI := Lib.hid i1
    have HTF := Lib.hid i2
    have HFF := Lib.hid i3
    clear i1 i2 i3 HKS
    have HPF : Hid (∃ mb ao co q, IsBlk W5 p (lcells (leftA σ L) mb ao co q) 64) := Lib.hid (by obtain ⟨mb, ao, co, q, _, _, h, _⟩ := HI.out; exact ⟨mb, ao, co, q, h⟩)
    obtain ⟨mb', ao', co', q', hpf⟩ := HPF.out
    have b4 := HB4.out.cell 0
    have l4 := HB4.out.lt
    have b2 := HB2.out.cell 0
    have l2 := HB2.out.lt
    have b3 := HB3.out.cell 0
    have l3 := HB3.out.lt
    have bp := hpf.cell 4
    have lp := hpf.lt
    simp only [lcells, pcells, List.getElem?_cons_zero, List.getElem?_cons_succ] at b4 b2 b3 bp
    rw [show (leftA σ L).largest = σ.largest from rfl] at bp
    clear hpf
    go_upto_region 10 with fail
    go_cut [54] (fun s54 wx => s54 = .bool (ackG σ L) ∧ Hid (Touch [] W5 wx))
    case first =>
      cases hgl : (goneA σ L).getLast? with
      | none =>
        have he : goneA σ L = [] := List.getLast?_eq_none_iff.1 hgl
        have hz : (pns (goneA σ L)).length = 0 := by rw [he]; rfl
        have HGF : Hid (ackG σ L = false) := Lib.hid (by unfold ackG; rw [hgl])
        have z1 : decide ((0 : Int) < ((pns (goneA σ L)).length : Int)) = false := by rw [hz]; rfl
        have z2 : decide (0 < (pns (goneA σ L)).length) = false := by rw [hz]; rfl
        have z3 : ¬ 0 < (pns (goneA σ L)).length := by omega
        clear hgl he hz
        go_quiet (fail)
        go_wp2_with fail
        go_meet
        case rel => exact ⟨by rw [HGF.out], Lib.hid ((Touch.refl _ _).drewN _)⟩
      | some s =>
        have hsm := HPL.out.small (gone_mem hgl)
        have hz : (0 : Int) < ((pns (goneA σ L)).length : Int) := by
          have : goneA σ L ≠ [] := fun e => by rw [e] at hgl; cases hgl
          have := List.length_pos_iff.2 this
          rw [pns_len]
          omega
        have z1 : decide ((0 : Int) < ((pns (goneA σ L)).length : Int)) = true := by simpa using hz
        have z2 : decide (0 < (pns (goneA σ L)).length) = true := by simp; omega
        have z3 : 0 < (pns (goneA σ L)).length := by omega
        have HGF : Hid (ackG σ L = decide (σ.largest < (s.pn : Int))) := Lib.hid (by unfold ackG; rw [hgl])
        rw [hgl, Option.getD_some] at b3
        have hwp : IntKind.i64.wrap (s.pn : Int) = (s.pn : Int) := IntWalk.i64_in _ (by omega)
        clear hgl
        go_quiet (fail)
        go_wp2_with fail
        go_meet
        case rel => exact ⟨by rw [HGF.out], Lib.hid ((Touch.refl _ _).drewN _)⟩
    case rest =>
    obtain ⟨rfl, HT6⟩ := hcut
    clear b4 l4 b2 l2 b3 l3 bp lp
    go_upto_if 54 with fail
    go_cut [] (fun wx => Hid (IsL wx p F' (ackS σ L now delay)) ∧ Hid (Touch [p] wc wx))
    case first =>
      cases hγ : ackG σ L with
      | false =>
        have HA : Hid (ackS σ L now delay = leftA σ L) := Lib.hid (by
          unfold ackG at hγ
          unfold ackS
          cases hgl : (goneA σ L).getLast? with
          | none => rfl
          | some s => rw [hgl] at hγ; simp only at hγ ⊢; rw [if_neg (of_decide_eq_false hγ)])
        clear hγ
        go_wp2_with fail
        go_meet
        case rel => exact ⟨Lib.hid (by rw [HA.out]; exact HI.out.keep HT6.out), Lib.hid (Touch.refl _ _)⟩
      | true =>
        obtain ⟨s, hgl, hlt⟩ : ∃ s, (goneA σ L).getLast? = some s ∧ σ.largest < (s.pn : Int) := by
          unfold ackG at hγ
          cases hgl : (goneA σ L).getLast? with
          | none => rw [hgl] at hγ; cases hγ
          | some s => rw [hgl] at hγ; exact ⟨s, rfl, of_decide_eq_true hγ⟩
        have HA : Hid (ackS σ L now delay = { (if s.eager then sampleS (leftA σ L) (now - min s.when_ now) delay else leftA σ L) with largest := (s.pn : Int) }) := Lib.hid (by unfold ackS; rw [hgl]; simp only; rw [if_pos hlt])
        have hsm := HPL.out.small (gone_mem hgl)
        have HSL : Hid ((s.pn : Int) ≤ σ.last) := Lib.hid (HPL.out.each s (gone_mem hgl)).1
        have hwp : IntKind.i64.wrap (s.pn : Int) = (s.pn : Int) := IntWalk.i64_in _ (by omega)
        have HB3c := Lib.hid (HB3.out.touch HT6.out (by simp))
        have HB2c := Lib.hid (HB2.out.touch HT6.out (by simp))
        rw [hgl, Option.getD_some] at HB3c
        have HIc := Lib.hid (HI.out.keep HT6.out)
        have g0 := HB3c.out.cell 0
        have g1 := HB3c.out.cell 1
        have g3 := HB3c.out.cell 3
        have gl := HB3c.out.lt
        have k2 := HB2c.out.cell 0
        have kl := HB2c.out.lt
        simp only [pcells, List.getElem?_cons_zero, List.getElem?_cons_succ] at g0 g1 g3 k2
        have hb3p : wr.heap.size + 1 ≠ p := by have := HZ.out; omega
        clear hγ hgl
        cases he : s.eager with
        | true =>
          rw [he] at g3
          have HE := Lib.hid he
          obtain ⟨mn, hmn⟩ : ∃ mn, mn = min s.when_ now := ⟨_, rfl⟩
          have hmn1 : min (s.when_ : Int) (now : Int) = (mn : Int) := by omega
          obtain ⟨nn, hnn⟩ : ∃ nn, nn = now - mn := ⟨_, rfl⟩
          have hnn1 : (now : Int) - (mn : Int) = (nn : Int) := by omega
          have hnn2 : nn ≤ 1099511627776 := by omega
          have hnw : IntKind.u64.wrap (nn : Int) = (nn : Int) := IntWalk.u64_in _ (by omega)
          have HNN : Hid (nn = now - min s.when_ now) := Lib.hid (by rw [hnn, hmn])
          clear he hmn hnn
          go_wp2_with fail
          refine (sample_any _ p F' (leftA σ L) nn delay HIc.out hnn2 hdel).mono ?_
          rintro e w7 ⟨rfl, h1, h2⟩
          have HI7 := Lib.hid h1
          have HT7 := Lib.hid h2
          have x2 := (HB2c.out.touch h2 (by simp; exact hbp)).cell 0
          have x0 := (HB3c.out.touch h2 (by simp; exact hb3p)).cell 0
          have xl := (HB3c.out.touch h2 (by simp; exact hb3p)).lt
          have x2l := (HB2c.out.touch h2 (by simp; exact hbp)).lt
          obtain ⟨mb7, ao7, co7, q7, hp7⟩ : ∃ mb ao co q, IsBlk w7 p (lcells (sampleS (leftA σ L) nn delay) mb ao co q) 64 := by obtain ⟨mb, ao, co, q, _, _, h, _⟩ := h1; exact ⟨mb, ao, co, q, h⟩
          have xp := hp7.cell 4
          have xf := hp7.frozen 4
          have xpl := hp7.lt
          simp only [lcells, pcells, List.getElem?_cons_zero, List.getElem?_cons_succ] at x2 x0 xp
          clear h1 h2 hp7 g0 g1 g3 gl k2 kl
          go_wp2_with fail
          go_meet
          case rel =>
            obtain ⟨o1, o2, o3, o4, o5⟩ := sampleS_opens (leftA σ L) nn delay
            have hT : Touch [p] w7 (w7.setCell ⟨p, 4, none⟩ (.int .i64 (s.pn : Int))) := (Touch.refl [p] w7).set (.inl (by simp)) _
            refine ⟨Lib.hid ?_, Lib.hid (HT7.out.trans hT (fun g hg => .inl hg))⟩
            rw [HA.out, HE.out, if_pos rfl, ← HNN.out]
            exact IsL.head HI7.out (fun mb ao co q hb => hb.set 4 _) hT rfl rfl rfl (top_ok HI7.out.ok s.pn (by rw [o4]; exact HSL.out))
        | false =>
          rw [he] at g3
          have HE := Lib.hid he
          clear he
          obtain ⟨mb7, ao7, co7, q7, hp7⟩ : ∃ mb ao co q, IsBlk wc p (lcells (leftA σ L) mb ao co q) 64 := by obtain ⟨mb, ao, co, q, _, _, h, _⟩ := HIc.out; exact ⟨mb, ao, co, q, h⟩
          have xp := hp7.cell 4
          have xf := hp7.frozen 4
          have xpl := hp7.lt
          simp only [lcells, List.getElem?_cons_zero, List.getElem?_cons_succ] at xp
          clear hp7
          go_wp2_with fail
          go_meet
          case rel =>
            have hT : Touch [p] wc (wc.setCell ⟨p, 4, none⟩ (.int .i64 (s.pn : Int))) := (Touch.refl [p] wc).set (.inl (by simp)) _
            refine ⟨Lib.hid ?_, Lib.hid hT⟩
            rw [HA.out, HE.out, if_neg (by decide)]
            exact IsL.head HIc.out (fun mb ao co q hb => hb.set 4 _) hT rfl rfl rfl (top_ok HIc.out.ok s.pn HSL.out)
    case rest =>
    obtain ⟨HI8, HT8⟩ := hcut
    have HT9 : Hid (Touch [p] W5 wc) := Lib.hid ((HT6.out.mono (by simp)).trans HT8.out (fun g hg => .inl hg))
    have hb4p : wr.heap.size ≠ p := by have := HZ.out; omega
    have HB4c := Lib.hid (HB4.out.touch HT9.out (by simp; exact hb4p))
    have HB2c := Lib.hid (HB2.out.touch HT9.out (by simp; exact hbp))
    have HS4c := Lib.hid (HS4.out.touch HT9.out (fun g hg hm => by have := (HG4.out g hg).1; simp at hm; omega))
    have HF'w : Hid (∀ g ∈ F', g < w.heap.size) := Lib.hid (fun g hg => HLT.out g (HFF.out g hg))
    have b4 := HB4c.out.cell 0
    have l4 := HB4c.out.lt
    have b2 := HB2c.out.cell 0
    have l2 := HB2c.out.lt
    simp only [List.getElem?_cons_zero] at b4 b2
    go_wp2_with fail
    go_region_held3 (fun w' => w'.cell? ⟨wr.heap.size, 0, none⟩ = some (.slice a4 (pns (goneA σ L)).length c4) ∧ w'.cell? ⟨w.heap.size, 0, none⟩ = some (.pointer (some ⟨p, 0, none⟩))) (go_keep) (first | (go_at_call 28; refine (lost_any _ p F' _ now (HI8.out.keep ((Touch.refl [] _).drew)) (by omega)).mono ?_; rintro e w9 ⟨v, rfl, j1, j2, j3⟩; obtain ⟨va, vc, rfl, _⟩ := j1.form; have HT10 : Hid (Touch F' wc w9) := Lib.hid (by obtain ⟨_, _, h, _⟩ := j2; exact ((Touch.refl F' wc).drew).trans h (fun g hg => .inl hg)); have J1 := Lib.hid j1; have J2 := Lib.hid j2; have J3 := Lib.hid j3; have y4 := (HB4c.out.touch HT10.out (fun hm => by have := HF'w.out _ hm; have := HZ.out; omega)).cell 0; have y2 := (HB2c.out.touch HT10.out (fun hm => by have := HF'w.out _ hm; omega)).cell 0; simp only [List.getElem?_cons_zero] at y4 y2; clear j1 j2 j3))
    all_goals go_wp2_with fail
    all_goals refine bodyPost_ret (v := .tuple #[.slice a4 (pns (goneA σ L)).length c4, .slice va (lostL (ackS σ L now delay) now).length vc, .int .i64 0]) (by simp [results, Try.results12, go_sem]) rfl ?_
    all_goals
      refine ⟨_, _, rfl, ?_, J1.out, ?_, fun g hg => (HG4.out g hg).1, fun g hg => ?_⟩
      · rw [show (goneA σ L).length = (pns (goneA σ L)).length from (pns_len _).symm]
        exact HS4c.out.touch HT10.out (fun g hg hm => by have := (HG4.out g hg).1; have := HF'w.out _ hm; omega)
      · exact StepK.trans ((HTF.out.trans HT9.out (fun g hg => .inl (by simp at hg; subst hg; exact HFF.out _ HI.out.mem))).drew) HFF.out J2.out
      · have h1 := J3.out g hg
        have h1 : wc.heap.size ≤ g := h1
        have h2 := HTF.out.size
        have h3 := HT9.out.size
        exact ⟨by omega, fun hm => by have := HS4c.out.lt g hm; omega⟩
end Go.Proofs.Ythnokfchebmjiaa
