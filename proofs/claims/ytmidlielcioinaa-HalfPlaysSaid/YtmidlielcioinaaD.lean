/- The contracts of NewSend, Write, span and chunk. Conditions: the half is in order; what is written keeps it so. -/
import Derived.Test.YtmidlielcioinaaC
namespace Go.Proofs.Ytmidlielcioinaa
open Go.RowKit

def snd0 (n : Nat) : Snd := ⟨[], false, 0, 0, [], [], min n mx, false⟩
theorem newSend_any (w : World) (n : Nat) : Calls Try.prog 9 #[.int .u64 (n : Int)] w fun e w' => ∃ p F, e = .returned (.pointer (some ⟨p, 0, none⟩)) ∧ IsSnd w' p F (snd0 n) ∧ Touch [] w w' ∧ ∀ g ∈ F, w.heap.size ≤ g := by
  obtain ⟨m, hm⟩ : ∃ m, m = min n mx := ⟨_, rfl⟩
  have HM : Hid (min (n : Int) 4611686018427387903 = (m : Int)) := Lib.hid (by rw [hm]; unfold mx; omega)
  have HMM := Lib.hid hm
  clear hm
  go_enter Try.func9, Try.ntmps9
  go_wp2_with fail
  refine (new_any _).mono ?_
  rintro e w1 ⟨rfl, rfl⟩
  rw [HM.out]
  go_wp2_with fail
  go_ret
  have hW : IsS (w.alloc (.cells #[.slice none 0 0, .int .u64 0] 71)) w.heap.size 71 [w.heap.size] [] 0 := IsS.new w 71
  refine ⟨w.heap.size + 1, [w.heap.size + 1, w.heap.size], rfl, ⟨none, none, 0, 0, w.heap.size, [w.heap.size], ?_, ?_, ?_, ?_, ?_, ?_, ?_, ?_, ?_⟩, ?_, ?_⟩
  · have := IsBlk.new (w.alloc (.cells #[.slice none 0 0, .int .u64 0] 71)) (cells (snd0 n) none none 0 0 w.heap.size) 54
    rw [World.size_alloc] at this
    rw [HMM.out]
    exact this
  · exact Sl.nil _ _ _
  · exact Sl.nil _ _ _
  · exact hW.keep ((Touch.refl _ _).alloc _)
  · simp [snd0]
  · simp [snd0]
  · simp [snd0]
  · simp [snd0]
  · exact ⟨V.nil 0, V.nil 0, by simp [snd0], by simp [snd0], by simp [snd0], by simp [snd0], by show min n mx ≤ _; unfold mx; omega, by simp [snd0], by simp [snd0]⟩
  · exact ((Touch.refl _ _).alloc _).alloc _
  · intro g hg
    simp at hg
    omega

/-- What span tells. -/
def spanR (σ : Snd) (off : Nat) (n : Int) : Nat × Nat × Bool := if n < 1 ∨ σ.top ≤ off then (0, 0, false) else (off, off + min n.toNat (σ.top - off) - 1, true)
theorem span_any25 (w : World) (p : Nat) (F : List Nat) (σ : Snd) (off : Nat) (n : Int) (h : IsSnd w p F σ) (hn : n ≤ 9223372036854775807) (ho : off < 18446744073709551616) :
    Calls Try.prog 31 #[.pointer (some ⟨p, 0, none⟩), .int .u64 (off : Int), .int .i64 n] w fun e w' => e = .returned (.tuple #[.agg #[.int .u64 ((spanR σ off n).1 : Int), .int .u64 ((spanR σ off n).2.1 : Int)], .bool (spanR σ off n).2.2]) ∧ Touch [] w w' := by
  obtain ⟨ab, al, cb, cl, q, Fq, h1, h2, h3, h4, rfl, d1, d2, d3, hok⟩ := h
  have c3 := h1.cell 3
  have hl := h1.lt
  simp only [cells, List.getElem?_cons_zero, List.getElem?_cons_succ] at c3
  have hto : σ.top ≤ 50000 := Nat.le_trans hok.top hok.len
  have hwt : IntKind.u64.wrap (σ.top : Int) = (σ.top : Int) := IntWalk.u64_in _ (by omega)
  clear h1 h2 h3 h4 d1 d2 d3 hok
  by_cases i1 : n < 1
  · have HS : Hid (spanR σ off n = (0, 0, false)) := Lib.hid (if_pos (.inl i1))
    rw [HS.out]
    go_enter Try.func31, Try.ntmps31
    go_wp2_with fail
    refine bodyPost_ret (v := .tuple #[.agg #[.int .u64 0, .int .u64 0], .bool false]) (by simp [results, Try.results31, go_sem]) rfl ⟨rfl, (Touch.refl _ _).alloc _⟩
  · by_cases i2 : (σ.top : Int) ≤ (off : Int)
    · have HS : Hid (spanR σ off n = (0, 0, false)) := Lib.hid (if_pos (.inr (by omega)))
      rw [HS.out]
      go_enter Try.func31, Try.ntmps31
      go_wp2_with fail
      refine bodyPost_ret (v := .tuple #[.agg #[.int .u64 0, .int .u64 0], .bool false]) (by simp [results, Try.results31, go_sem]) rfl ⟨rfl, (Touch.refl _ _).alloc _⟩
    · obtain ⟨m, hm⟩ : ∃ m : Nat, m = min n.toNat (σ.top - off) := ⟨_, rfl⟩
      have HS : Hid (spanR σ off n = (off, off + m - 1, true)) := Lib.hid (by rw [hm]; exact if_neg (by omega))
      have hwn : IntKind.u64.wrap n = n := IntWalk.u64_in _ (by omega)
      have HM : Hid (min n ((σ.top : Int) - (off : Int)) = (m : Int)) := Lib.hid (by omega)
      have hm1 : 1 ≤ m ∧ off + m ≤ 50000 := by omega
      rw [HS.out]
      clear hm
      go_enter Try.func31, Try.ntmps31
      go_wp2_with fail
      rw [HM.out]
      refine bodyPost_ret (v := .tuple #[.agg #[.int .u64 (off : Int), .int .u64 ((off + m - 1 : Nat) : Int)], .bool true]) (by simp [results, Try.results31, go_sem]; omega) rfl ⟨rfl, (Touch.refl _ _).alloc _⟩

def writeS (σ : Snd) (bb : List Nat) (fin : Bool) : Snd := if σ.ended || σ.reset then σ else { σ with b := σ.b ++ bb, ended := fin }
theorem write_any (w : World) (p : Nat) (F : List Nat) (σ : Snd) (v : Value) (n : Nat) (bb : List Nat) (fin : Bool) (h : IsSnd w p F σ) (hx : Rd w 1 v n (bs bb)) (hb : bb.length = n) (hl : σ.b.length + n ≤ 50000) :
    Calls Try.prog 10 #[.pointer (some ⟨p, 0, none⟩), v, .bool fin] w fun e w' => e = .returned (.bool (!(σ.ended || σ.reset))) ∧ Step w p F (writeS σ bb fin) w' := by
  obtain ⟨i0, hi0, hz0, hz1, hz2⟩ := info_parts info5
  have HH := Lib.hid h
  obtain ⟨ab, al, cb, cl, q, Fq, h1, h2, h3, h4, hF, d1, d2, d3, hok⟩ := h
  have HF := Lib.hid hF
  obtain ⟨av, cv, rfl⟩ := hx.form
  have HX := Lib.hid hx
  have H1 := Lib.hid h1
  have H2 := Lib.hid h2
  have HQ := Lib.hid (And.intro h3 (And.intro h4 (And.intro d1 (And.intro d2 (And.intro d3 hok)))))
  have HBB := Lib.hid hb
  have c0 := h1.cell 0
  have c1 := h1.cell 1
  have c7 := h1.cell 7
  have hpl := h1.lt
  simp only [cells, List.getElem?_cons_zero, List.getElem?_cons_succ] at c0 c1 c7
  clear hF hx h1 h2 h3 h4 d1 d2 d3 hok hb
  cases he : σ.ended with
  | true =>
    have HW : Hid (writeS σ bb fin = σ) := Lib.hid (by unfold writeS; rw [he]; rfl)
    rw [he] at c1
    clear he
    go_enter Try.func10, Try.ntmps10
    go_wp2_with fail
    go_ret
    exact ⟨ret_b (by simp), by rw [HW.out]; exact Step.same HH.out (Touch.refl _ _)⟩
  | false =>
    cases hr : σ.reset with
    | true =>
      have HW : Hid (writeS σ bb fin = σ) := Lib.hid (by unfold writeS; rw [he, hr]; rfl)
      rw [he] at c1
      rw [hr] at c7
      clear he hr
      go_enter Try.func10, Try.ntmps10
      go_wp2_with fail
      go_ret
      exact ⟨ret_b (by simp), by rw [HW.out]; exact Step.same HH.out (Touch.refl _ _)⟩
    | false =>
      have HW : Hid (writeS σ bb fin = { σ with b := σ.b ++ bb, ended := fin }) := Lib.hid (by unfold writeS; rw [he, hr]; rfl)
      have HRS := Lib.hid hr
      rw [he] at c1
      rw [hr] at c7
      clear he hr
      go_enter Try.func10, Try.ntmps10
      go_wp2_with (at_builtin; refine wpList_append_sl _ rfl _ _ 22 rfl 5 i0 _ 1 1 under22 hi0 hz0 hz1 hz2 rfl (by omega) (.slice ab σ.b.length cb) σ.b.length (bs σ.b) rfl H2.out (.slice av n cv) n (bs bb) rfl HX.out (bs_one _) (by unfold maxLen; omega) (by omega) fun a3 c3 w3 k1 k2 k3 k4 => ?_; have HB3 := Lib.hid (H1.out.touch k2 HQ.out.2.2.1.1); have b0 := HB3.out.cell 0; have b1 := HB3.out.cell 1; have f0 := HB3.out.frozen 0; have f1 := HB3.out.frozen 1; have bl := HB3.out.lt; simp only [cells, List.getElem?_cons_zero, List.getElem?_cons_succ] at b0 b1; have K1 := Lib.hid k1; have K2 := Lib.hid k2; have K3 := Lib.hid k3; clear k1 k2 k3 k4)
      go_ret
      refine ⟨ret_b (by simp), ?_⟩
      obtain ⟨h3, h4, d1, d2, d3, hok⟩ := HQ.out
      have hTp : Touch [p] w3 ((w3.setCell ⟨p, 0, none⟩ (.slice a3 (σ.b.length + n) c3)).setCell ⟨p, 1, none⟩ (.bool fin)) := ((Touch.refl [p] w3).set (.inl (by simp)) _).set (.inl (by simp)) _
      have hno : ∀ g ∈ own (.slice a3 (σ.b.length + n) c3), g ≠ p ∧ g ∉ own (.slice al σ.lost.length cl) ∧ g ∉ Fq := fun g hg => by
        rcases K3.out g hg with h | h
        · exact ⟨fun e => d1.1 (by rw [← e]; exact h), d2 g h⟩
        · exact ⟨by omega, fun hm => by have := h3.lt g hm; omega, fun hm => by have := h4.lt g hm; omega⟩
      have el : (σ.b ++ bb).length = σ.b.length + n := by rw [List.length_append, HBB.out]
      rw [HW.out, HF.out]
      refine ⟨p :: (own (.slice a3 (σ.b.length + n) c3) ++ own (.slice al σ.lost.length cl) ++ Fq), ⟨a3, al, c3, cl, q, Fq, ?_, ?_, ?_, ?_, ?_, ?_, ?_, ?_, ?_⟩, ?_, ?_⟩
      · show IsBlk _ p [.slice a3 (σ.b ++ bb).length c3, .bool fin, _, _, _, _, _, _] 54
        rw [el]
        exact (HB3.out.set 0 _).set 1 _
      · show Sl _ 5 1 (.slice a3 (σ.b ++ bb).length c3) (σ.b ++ bb).length (bs (σ.b ++ bb))
        rw [el, bs_append]
        exact K1.out.touch hTp (fun g hg hm => (hno g hg).1 (by simpa using hm))
      · exact (h3.touch K2.out (fun g hg hm => (d2 g hm).1 hg)).touch hTp (fun g hg hm => d1.2.1 (by simp at hm; rw [← hm]; exact hg))
      · exact (h4.touch K2.out (fun g hg hm => (d2 g hm).2 hg)).touch hTp (fun g hg hm => d1.2.2 (by simp at hm; rw [← hm]; exact hg))
      · show _ = p :: (own (.slice a3 (σ.b ++ bb).length c3) ++ _ ++ _)
        rw [el]
      · show p ∉ own (.slice a3 (σ.b ++ bb).length c3) ∧ _
        rw [el]
        exact ⟨fun hm => (hno p hm).1 rfl, d1.2⟩
      · show ∀ g ∈ own (.slice a3 (σ.b ++ bb).length c3), _
        rw [el]
        exact fun g hg => (hno g hg).2
      · exact d3
      · exact ⟨hok.lost, hok.acked, hok.lt, hok.at', by show σ.top ≤ (σ.b ++ bb).length; have := hok.top; omega, hok.tm, hok.max, by show (σ.b ++ bb).length ≤ _; omega, hok.fin⟩
      · exact (K2.out.mono (fun g hg => .inl (by simp [hg]))).trans hTp (fun g hg => .inl (by simp at hg; simp [hg]))
      · intro g hg
        simp only [List.mem_cons, List.mem_append] at hg ⊢
        rcases hg with hg | (hg | hg) | hg
        · exact .inl (.inl hg)
        · rcases K3.out g hg with h | h
          · exact .inl (.inr (.inl (.inl h)))
          · exact .inr h
        · exact .inl (.inr (.inl (.inr hg)))
        · exact .inl (.inr (.inr hg))

/-- A step that hands out v, which lies beside the half. -/
def StepV (w : World) (p : Nat) (F : List Nat) (σ : Snd) (w' : World) (v : Value) : Prop := ∃ F', IsSnd w' p F' σ ∧ Touch F w w' ∧ (∀ g ∈ F', g ∈ F ∨ w.heap.size ≤ g) ∧ ∀ g ∈ own v, g ∉ F'
theorem StepV.keep {w w1 w' : World} {p : Nat} {F : List Nat} {σ : Snd} {v : Value} (h : IsSnd w1 p F σ ∧ Touch F w w1) (hk : Touch [] w1 w') (hv : ∀ g ∈ own v, w1.heap.size ≤ g) : StepV w p F σ w' v :=
  ⟨F, h.1.keep hk, h.2.trans hk (by simp), fun g hg => .inl hg, fun g hg hm => by have := h.1.lt g hm; have := hv g hg; omega⟩
theorem StepV.same {w w' : World} {p : Nat} {F : List Nat} {σ : Snd} {v : Value} (h : IsSnd w p F σ) (hk : Touch [] w w') (hv : ∀ g ∈ own v, w.heap.size ≤ g) : StepV w p F σ w' v := StepV.keep ⟨h, Touch.refl F w⟩ hk hv
theorem StepV.trans {w w' w2 : World} {p : Nat} {F F' : List Nat} {σ : Snd} {v : Value} (hT : Touch F w w') (hF : ∀ g, g ∈ F' → g ∈ F ∨ w.heap.size ≤ g) (h : StepV w' p F' σ w2 v) : StepV w p F σ w2 v := by
  obtain ⟨F2, h1, h2, h3, h4⟩ := h
  exact ⟨F2, h1, hT.trans h2 hF, fun g hg => (h3 g hg).elim (hF g) (fun h => .inr (Nat.le_trans hT.size h)), h4⟩
theorem IsSnd.head0 {w w' : World} {p : Nat} {σ τ : Snd} {ab al : Option Addr} {cb cl q : Nat} {Fq : List Nat} (h2 : Sl w 5 1 (.slice ab σ.b.length cb) σ.b.length (bs σ.b)) (h3 : Sl w 56 2 (.slice al σ.lost.length cl) σ.lost.length (cr σ.lost)) (h4 : IsS w q 71 Fq σ.acked 0)
    (d1 : p ∉ own (.slice ab σ.b.length cb) ∧ p ∉ own (.slice al σ.lost.length cl) ∧ p ∉ Fq) (d2 : ∀ g ∈ own (.slice ab σ.b.length cb), g ∉ own (.slice al σ.lost.length cl) ∧ g ∉ Fq) (d3 : ∀ g ∈ own (.slice al σ.lost.length cl), g ∉ Fq)
    (hp : IsBlk w' p (cells τ ab al cb cl q) 54) (hT : Touch [p] w w') (e1 : τ.b = σ.b) (e2 : τ.lost = σ.lost) (e3 : τ.acked = σ.acked) (hok : τ.Ok) :
    IsSnd w' p (p :: (own (.slice ab σ.b.length cb) ++ own (.slice al σ.lost.length cl) ++ Fq)) τ ∧ Touch (p :: (own (.slice ab σ.b.length cb) ++ own (.slice al σ.lost.length cl) ++ Fq)) w w' := by
  refine ⟨⟨ab, al, cb, cl, q, Fq, hp, ?_, ?_, ?_, by rw [e1, e2], ?_, ?_, ?_, hok⟩, hT.mono (fun g hg => .inl (by simp at hg; simp [hg]))⟩
  · rw [e1]; exact h2.touch hT (fun g hg hm => by simp at hm; subst hm; exact d1.1 hg)
  · rw [e2]; exact h3.touch hT (fun g hg hm => by simp at hm; subst hm; exact d1.2.1 hg)
  · rw [e3]; exact h4.touch hT (fun g hg hm => by simp at hm; subst hm; exact d1.2.2 hg)
  · rw [e1, e2]; exact d1
  · rw [e1, e2]; exact d2
  · rw [e2]; exact d3

def chunkF (σ : Snd) (at_ n : Nat) : Bool := σ.ended && (((at_ : Int) + (n : Int) == (σ.b.length : Int)) && (((σ.fin : Int) == 0) || ((σ.fin : Int) == 2)))
def chunkS (σ : Snd) (at_ n : Nat) : Snd := if chunkF σ at_ n then { σ with fin := 1 } else σ
/-- A part of the bytes, cloned. -/
theorem part_any (w : World) (g off cap n0 at_ n : Nat) (b : List Nat) (h : Sl w 5 1 (.slice (some ⟨g, off, none⟩) n0 cap) n0 (bs b)) (hn : b.length = n0) (ha : at_ + n ≤ n0) (h50 : n0 ≤ 50000) :
    (cap = at_ → Calls Try.prog 41 #[.slice (some ⟨g, off, none⟩) n 0] w fun e w' => ∃ v', e = .returned v' ∧ Rd w' 1 v' n (bs ((b.drop at_).take n)) ∧ Touch [] w w' ∧ ∀ g ∈ own v', w.heap.size ≤ g) ∧
    (cap ≠ at_ → Calls Try.prog 41 #[.slice (some ⟨g, off + at_, none⟩) n (cap - at_)] w fun e w' => ∃ v', e = .returned v' ∧ Rd w' 1 v' n (bs ((b.drop at_).take n)) ∧ Touch [] w w' ∧ ∀ g ∈ own v', w.heap.size ≤ g) := by
  have hc := h.at.1
  refine ⟨fun e => ?_, fun e => ?_⟩
  · obtain rfl : n = 0 := by omega
    exact clone_any w _ 0 _ ⟨by simp [bs], .inl ⟨_, _, rfl, rfl⟩⟩ (fun a c he h0 => by subst h0; simp at he) (by omega)
  · have hp := h.part at_ n (cap - at_) (by omega) (by omega) (by omega)
    rw [Nat.mul_one, Nat.mul_one] at hp
    have e2 : ((bs b).drop at_).take n = bs ((b.drop at_).take n) := by unfold bs; rw [List.map_take, List.map_drop]
    rw [e2] at hp
    exact clone_any w _ n _ hp.rd (fun a c he h0 => by subst h0; simp at he) (by omega)

set_option maxHeartbeats 4000000 in
theorem chunk_any (w : World) (p : Nat) (F : List Nat) (σ : Snd) (at_ n : Nat) (h : IsSnd w p F σ) (ha : at_ + n ≤ σ.b.length) :
    Calls Try.prog 30 #[.pointer (some ⟨p, 0, none⟩), .int .i64 (at_ : Int), .int .i64 (n : Int)] w fun e w' => ∃ v, e = .returned (.tuple #[.int .u64 (at_ : Int), v, .bool (chunkF σ at_ n), .bool true]) ∧ Rd w' 1 v n (bs ((σ.b.drop at_).take n)) ∧ StepV w p F (chunkS σ at_ n) w' v ∧ ∀ g ∈ own v, w.heap.size ≤ g := by
  have HH := Lib.hid h
  obtain ⟨ab, al, cb, cl, q, Fq, h1, h2, h3, h4, hF, d1, d2, d3, hok⟩ := h
  have HF := Lib.hid hF
  have H1 := Lib.hid h1
  have c0 := h1.cell 0
  have c1 := h1.cell 1
  have c2 := h1.cell 2
  have f2 := h1.frozen 2
  have hpl := h1.lt
  simp only [cells, List.getElem?_cons_zero, List.getElem?_cons_succ] at c0 c1 c2
  have hlen := hok.len
  have hwa : IntKind.u64.wrap (at_ : Int) = (at_ : Int) := IntWalk.u64_in _ (by omega)
  have HO : Hid (Snd.Ok { σ with fin := 1 }) := Lib.hid ⟨hok.lost, hok.acked, hok.lt, hok.at', hok.top, hok.tm, hok.max, hok.len, by show 1 ≤ 3; omega⟩
  have HQ := Lib.hid (And.intro h2 (And.intro h3 (And.intro h4 (And.intro d1 (And.intro d2 d3)))))
  clear hF h1 h3 h4 d2 d3 hok
  rcases h2.cases with ⟨he, hn0, _⟩ | ⟨g, off, cap, he, hnc, hcm, _, _, _⟩
  · -- no bytes at all
    simp at he
    obtain ⟨rfl, _, rfl⟩ := he
    obtain rfl : at_ = 0 := by omega
    obtain rfl : n = 0 := by omega
    rw [hn0] at c0
    have HN0 := Lib.hid hn0
    have HCL : Hid (∀ w', Calls Try.prog 41 #[.slice none 0 0] w' fun e w2 => ∃ v', e = .returned v' ∧ Rd w2 1 v' 0 (bs ((σ.b.drop 0).take 0)) ∧ Touch [] w' w2 ∧ ∀ g ∈ own v', w'.heap.size ≤ g) := Lib.hid fun w' => clone_any w' _ 0 _ ⟨by simp [bs], .inl ⟨_, _, rfl, rfl⟩⟩ (fun a c he _ => by simp at he; exact ⟨rfl, he.2.symm⟩) (by omega)
    clear h2 hn0 ha d1 hlen
    skip
    cases he : σ.ended with
    | false =>
      have HC : Hid (chunkF σ 0 0 = false) := Lib.hid (by unfold chunkF; rw [he]; rfl)
      rw [he] at c1
      clear he
      go_enter Try.func30, Try.ntmps30
      go_wp2_with fail
      refine (HCL.out _).mono ?_
      rintro e w2 ⟨v', rfl, k1, k2, k3⟩
      obtain ⟨va, vc, hve⟩ := k1.form
      subst hve
      have K1 := Lib.hid k1
      have K2 := Lib.hid k2
      have K3 := Lib.hid k3
      clear k1 k2 k3
      go_wp2_with fail
      refine bodyPost_ret (v := .tuple #[.int .u64 ((0 : Nat) : Int), .slice va 0 vc, .bool false, .bool true]) (by simp [results, Try.results30, go_sem]) rfl ?_
      rw [HC.out, show chunkS σ 0 0 = σ from by unfold chunkS; rw [HC.out]; rfl]
      exact ⟨_, rfl, K1.out, StepV.same HH.out K2.out K3.out, K3.out⟩
    | true =>
      rw [he] at c1
      cases hl : (((0 : Nat) : Int) + ((0 : Nat) : Int) == (σ.b.length : Int)) with
      | false => rw [HN0.out] at hl; simp at hl
      | true =>
        cases h0 : ((σ.fin : Int) == 0) with
        | true =>
          have HC : Hid (chunkF σ 0 0 = true) := Lib.hid (by unfold chunkF; rw [he, hl, h0]; rfl)
          clear he
          go_enter Try.func30, Try.ntmps30
          go_wp2_with fail
          refine (HCL.out _).mono ?_
          rintro e w2 ⟨v', rfl, k1, k2, k3⟩
          obtain ⟨va, vc, hve⟩ := k1.form
          subst hve
          have K1 := Lib.hid k1
          have K2 := Lib.hid k2
          have K3 := Lib.hid k3
          clear k1 k2 k3
          go_wp2_with fail
          refine bodyPost_ret (v := .tuple #[.int .u64 ((0 : Nat) : Int), .slice va 0 vc, .bool true, .bool true]) (by simp [results, Try.results30, go_sem]) rfl ?_
          obtain ⟨h2, h3, h4, d1, d2, d3⟩ := HQ.out
          rw [HC.out, show chunkS σ 0 0 = { σ with fin := 1 } from by unfold chunkS; rw [HC.out]; rfl, HF.out]
          exact ⟨_, rfl, K1.out, StepV.keep (IsSnd.head0 (σ := σ) (τ := { σ with fin := 1 }) h2 h3 h4 d1 d2 d3 (H1.out.set 2 _) ((Touch.refl [p] w).set (.inl (by simp)) _) rfl rfl rfl HO.out) K2.out K3.out, fun g hg => by have := K3.out g hg; simp [World.setCell] at this; omega⟩
        | false =>
          cases h2 : ((σ.fin : Int) == 2) with
          | true =>
            have HC : Hid (chunkF σ 0 0 = true) := Lib.hid (by unfold chunkF; rw [he, hl, h0, h2]; rfl)
            clear he
            go_enter Try.func30, Try.ntmps30
            go_wp2_with fail
            refine (HCL.out _).mono ?_
            rintro e w2 ⟨v', rfl, k1, k2, k3⟩
            obtain ⟨va, vc, hve⟩ := k1.form
            subst hve
            have K1 := Lib.hid k1
            have K2 := Lib.hid k2
            have K3 := Lib.hid k3
            clear k1 k2 k3
            go_wp2_with fail
            refine bodyPost_ret (v := .tuple #[.int .u64 ((0 : Nat) : Int), .slice va 0 vc, .bool true, .bool true]) (by simp [results, Try.results30, go_sem]) rfl ?_
            obtain ⟨h2, h3, h4, d1, d2, d3⟩ := HQ.out
            rw [HC.out, show chunkS σ 0 0 = { σ with fin := 1 } from by unfold chunkS; rw [HC.out]; rfl, HF.out]
            exact ⟨_, rfl, K1.out, StepV.keep (IsSnd.head0 (σ := σ) (τ := { σ with fin := 1 }) h2 h3 h4 d1 d2 d3 (H1.out.set 2 _) ((Touch.refl [p] w).set (.inl (by simp)) _) rfl rfl rfl HO.out) K2.out K3.out, fun g hg => by have := K3.out g hg; simp [World.setCell] at this; omega⟩
          | false =>
            have HC : Hid (chunkF σ 0 0 = false) := Lib.hid (by unfold chunkF; rw [he, hl, h0, h2]; rfl)
            clear he
            go_enter Try.func30, Try.ntmps30
            go_wp2_with fail
            refine (HCL.out _).mono ?_
            rintro e w2 ⟨v', rfl, k1, k2, k3⟩
            obtain ⟨va, vc, hve⟩ := k1.form
            subst hve
            have K1 := Lib.hid k1
            have K2 := Lib.hid k2
            have K3 := Lib.hid k3
            clear k1 k2 k3
            go_wp2_with fail
            refine bodyPost_ret (v := .tuple #[.int .u64 ((0 : Nat) : Int), .slice va 0 vc, .bool false, .bool true]) (by simp [results, Try.results30, go_sem]) rfl ?_
            rw [HC.out, show chunkS σ 0 0 = σ from by unfold chunkS; rw [HC.out]; rfl]
            exact ⟨_, rfl, K1.out, StepV.same HH.out K2.out K3.out, K3.out⟩
  · simp at he
    obtain ⟨rfl, rfl⟩ := he
    have HPT := Lib.hid (part_any w g off cb σ.b.length at_ n σ.b h2 rfl ha hlen)
    have HPT2 := Lib.hid (part_any (w.setCell ⟨p, 2, none⟩ (.int .i64 1)) g off cb σ.b.length at_ n σ.b (h2.touch ((Touch.refl [p] w).set (.inl (by simp)) _) (fun g hg hm => d1.1 (by simp at hm; rw [← hm]; exact hg))) rfl ha hlen)
    clear h2 d1
    have q1 : (at_ : Int) ≤ (at_ : Int) + (n : Int) := by omega
    have q2 : (at_ : Int) + (n : Int) ≤ (cb : Int) := by omega
    by_cases hca : cb = at_
    · skip
      cases he : σ.ended with
      | false =>
        have HC : Hid (chunkF σ at_ n = false) := Lib.hid (by unfold chunkF; rw [he]; rfl)
        rw [he] at c1
        clear he
        go_enter Try.func30, Try.ntmps30
        go_wp2_with fail
        refine (HPT.out.1 hca).mono ?_
        rintro e w2 ⟨v', rfl, k1, k2, k3⟩
        obtain ⟨va, vc, hve⟩ := k1.form
        subst hve
        have K1 := Lib.hid k1
        have K2 := Lib.hid k2
        have K3 := Lib.hid k3
        clear k1 k2 k3
        go_wp2_with fail
        refine bodyPost_ret (v := .tuple #[.int .u64 ((at_ : Nat) : Int), .slice va n vc, .bool false, .bool true]) (by simp [results, Try.results30, go_sem]) rfl ?_
        rw [HC.out, show chunkS σ at_ n = σ from by unfold chunkS; rw [HC.out]; rfl]
        exact ⟨_, rfl, K1.out, StepV.same HH.out K2.out K3.out, K3.out⟩
      | true =>
        rw [he] at c1
        cases hl : ((at_ : Int) + (n : Int) == (σ.b.length : Int)) with
        | false =>
          have HC : Hid (chunkF σ at_ n = false) := Lib.hid (by unfold chunkF; rw [he, hl]; rfl)
          clear he
          go_enter Try.func30, Try.ntmps30
          go_wp2_with fail
          refine (HPT.out.1 hca).mono ?_
          rintro e w2 ⟨v', rfl, k1, k2, k3⟩
          obtain ⟨va, vc, hve⟩ := k1.form
          subst hve
          have K1 := Lib.hid k1
          have K2 := Lib.hid k2
          have K3 := Lib.hid k3
          clear k1 k2 k3
          go_wp2_with fail
          refine bodyPost_ret (v := .tuple #[.int .u64 ((at_ : Nat) : Int), .slice va n vc, .bool false, .bool true]) (by simp [results, Try.results30, go_sem]) rfl ?_
          rw [HC.out, show chunkS σ at_ n = σ from by unfold chunkS; rw [HC.out]; rfl]
          exact ⟨_, rfl, K1.out, StepV.same HH.out K2.out K3.out, K3.out⟩
        | true =>
          cases h0 : ((σ.fin : Int) == 0) with
          | true =>
            have HC : Hid (chunkF σ at_ n = true) := Lib.hid (by unfold chunkF; rw [he, hl, h0]; rfl)
            clear he
            go_enter Try.func30, Try.ntmps30
            go_wp2_with fail
            refine (HPT2.out.1 hca).mono ?_
            rintro e w2 ⟨v', rfl, k1, k2, k3⟩
            obtain ⟨va, vc, hve⟩ := k1.form
            subst hve
            have K1 := Lib.hid k1
            have K2 := Lib.hid k2
            have K3 := Lib.hid k3
            clear k1 k2 k3
            go_wp2_with fail
            refine bodyPost_ret (v := .tuple #[.int .u64 ((at_ : Nat) : Int), .slice va n vc, .bool true, .bool true]) (by simp [results, Try.results30, go_sem]) rfl ?_
            obtain ⟨h2, h3, h4, d1, d2, d3⟩ := HQ.out
            rw [HC.out, show chunkS σ at_ n = { σ with fin := 1 } from by unfold chunkS; rw [HC.out]; rfl, HF.out]
            exact ⟨_, rfl, K1.out, StepV.keep (IsSnd.head0 (σ := σ) (τ := { σ with fin := 1 }) h2 h3 h4 d1 d2 d3 (H1.out.set 2 _) ((Touch.refl [p] w).set (.inl (by simp)) _) rfl rfl rfl HO.out) K2.out K3.out, fun g hg => by have := K3.out g hg; simp [World.setCell] at this; omega⟩
          | false =>
            cases h2 : ((σ.fin : Int) == 2) with
            | true =>
              have HC : Hid (chunkF σ at_ n = true) := Lib.hid (by unfold chunkF; rw [he, hl, h0, h2]; rfl)
              clear he
              go_enter Try.func30, Try.ntmps30
              go_wp2_with fail
              refine (HPT2.out.1 hca).mono ?_
              rintro e w2 ⟨v', rfl, k1, k2, k3⟩
              obtain ⟨va, vc, hve⟩ := k1.form
              subst hve
              have K1 := Lib.hid k1
              have K2 := Lib.hid k2
              have K3 := Lib.hid k3
              clear k1 k2 k3
              go_wp2_with fail
              refine bodyPost_ret (v := .tuple #[.int .u64 ((at_ : Nat) : Int), .slice va n vc, .bool true, .bool true]) (by simp [results, Try.results30, go_sem]) rfl ?_
              obtain ⟨h2, h3, h4, d1, d2, d3⟩ := HQ.out
              rw [HC.out, show chunkS σ at_ n = { σ with fin := 1 } from by unfold chunkS; rw [HC.out]; rfl, HF.out]
              exact ⟨_, rfl, K1.out, StepV.keep (IsSnd.head0 (σ := σ) (τ := { σ with fin := 1 }) h2 h3 h4 d1 d2 d3 (H1.out.set 2 _) ((Touch.refl [p] w).set (.inl (by simp)) _) rfl rfl rfl HO.out) K2.out K3.out, fun g hg => by have := K3.out g hg; simp [World.setCell] at this; omega⟩
            | false =>
              have HC : Hid (chunkF σ at_ n = false) := Lib.hid (by unfold chunkF; rw [he, hl, h0, h2]; rfl)
              clear he
              go_enter Try.func30, Try.ntmps30
              go_wp2_with fail
              refine (HPT.out.1 hca).mono ?_
              rintro e w2 ⟨v', rfl, k1, k2, k3⟩
              obtain ⟨va, vc, hve⟩ := k1.form
              subst hve
              have K1 := Lib.hid k1
              have K2 := Lib.hid k2
              have K3 := Lib.hid k3
              clear k1 k2 k3
              go_wp2_with fail
              refine bodyPost_ret (v := .tuple #[.int .u64 ((at_ : Nat) : Int), .slice va n vc, .bool false, .bool true]) (by simp [results, Try.results30, go_sem]) rfl ?_
              rw [HC.out, show chunkS σ at_ n = σ from by unfold chunkS; rw [HC.out]; rfl]
              exact ⟨_, rfl, K1.out, StepV.same HH.out K2.out K3.out, K3.out⟩
    · skip
      cases he : σ.ended with
      | false =>
        have HC : Hid (chunkF σ at_ n = false) := Lib.hid (by unfold chunkF; rw [he]; rfl)
        rw [he] at c1
        clear he
        go_enter Try.func30, Try.ntmps30
        go_wp2_with fail
        refine (HPT.out.2 hca).mono ?_
        rintro e w2 ⟨v', rfl, k1, k2, k3⟩
        obtain ⟨va, vc, hve⟩ := k1.form
        subst hve
        have K1 := Lib.hid k1
        have K2 := Lib.hid k2
        have K3 := Lib.hid k3
        clear k1 k2 k3
        go_wp2_with fail
        refine bodyPost_ret (v := .tuple #[.int .u64 ((at_ : Nat) : Int), .slice va n vc, .bool false, .bool true]) (by simp [results, Try.results30, go_sem]) rfl ?_
        rw [HC.out, show chunkS σ at_ n = σ from by unfold chunkS; rw [HC.out]; rfl]
        exact ⟨_, rfl, K1.out, StepV.same HH.out K2.out K3.out, K3.out⟩
      | true =>
        rw [he] at c1
        cases hl : ((at_ : Int) + (n : Int) == (σ.b.length : Int)) with
        | false =>
          have HC : Hid (chunkF σ at_ n = false) := Lib.hid (by unfold chunkF; rw [he, hl]; rfl)
          clear he
          go_enter Try.func30, Try.ntmps30
          go_wp2_with fail
          refine (HPT.out.2 hca).mono ?_
          rintro e w2 ⟨v', rfl, k1, k2, k3⟩
          obtain ⟨va, vc, hve⟩ := k1.form
          subst hve
          have K1 := Lib.hid k1
          have K2 := Lib.hid k2
          have K3 := Lib.hid k3
          clear k1 k2 k3
          go_wp2_with fail
          refine bodyPost_ret (v := .tuple #[.int .u64 ((at_ : Nat) : Int), .slice va n vc, .bool false, .bool true]) (by simp [results, Try.results30, go_sem]) rfl ?_
          rw [HC.out, show chunkS σ at_ n = σ from by unfold chunkS; rw [HC.out]; rfl]
          exact ⟨_, rfl, K1.out, StepV.same HH.out K2.out K3.out, K3.out⟩
        | true =>
          cases h0 : ((σ.fin : Int) == 0) with
          | true =>
            have HC : Hid (chunkF σ at_ n = true) := Lib.hid (by unfold chunkF; rw [he, hl, h0]; rfl)
            clear he
            go_enter Try.func30, Try.ntmps30
            go_wp2_with fail
            refine (HPT2.out.2 hca).mono ?_
            rintro e w2 ⟨v', rfl, k1, k2, k3⟩
            obtain ⟨va, vc, hve⟩ := k1.form
            subst hve
            have K1 := Lib.hid k1
            have K2 := Lib.hid k2
            have K3 := Lib.hid k3
            clear k1 k2 k3
            go_wp2_with fail
            refine bodyPost_ret (v := .tuple #[.int .u64 ((at_ : Nat) : Int), .slice va n vc, .bool true, .bool true]) (by simp [results, Try.results30, go_sem]) rfl ?_
            obtain ⟨h2, h3, h4, d1, d2, d3⟩ := HQ.out
            rw [HC.out, show chunkS σ at_ n = { σ with fin := 1 } from by unfold chunkS; rw [HC.out]; rfl, HF.out]
            exact ⟨_, rfl, K1.out, StepV.keep (IsSnd.head0 (σ := σ) (τ := { σ with fin := 1 }) h2 h3 h4 d1 d2 d3 (H1.out.set 2 _) ((Touch.refl [p] w).set (.inl (by simp)) _) rfl rfl rfl HO.out) K2.out K3.out, fun g hg => by have := K3.out g hg; simp [World.setCell] at this; omega⟩
          | false =>
            cases h2 : ((σ.fin : Int) == 2) with
            | true =>
              have HC : Hid (chunkF σ at_ n = true) := Lib.hid (by unfold chunkF; rw [he, hl, h0, h2]; rfl)
              clear he
              go_enter Try.func30, Try.ntmps30
              go_wp2_with fail
              refine (HPT2.out.2 hca).mono ?_
              rintro e w2 ⟨v', rfl, k1, k2, k3⟩
              obtain ⟨va, vc, hve⟩ := k1.form
              subst hve
              have K1 := Lib.hid k1
              have K2 := Lib.hid k2
              have K3 := Lib.hid k3
              clear k1 k2 k3
              go_wp2_with fail
              refine bodyPost_ret (v := .tuple #[.int .u64 ((at_ : Nat) : Int), .slice va n vc, .bool true, .bool true]) (by simp [results, Try.results30, go_sem]) rfl ?_
              obtain ⟨h2, h3, h4, d1, d2, d3⟩ := HQ.out
              rw [HC.out, show chunkS σ at_ n = { σ with fin := 1 } from by unfold chunkS; rw [HC.out]; rfl, HF.out]
              exact ⟨_, rfl, K1.out, StepV.keep (IsSnd.head0 (σ := σ) (τ := { σ with fin := 1 }) h2 h3 h4 d1 d2 d3 (H1.out.set 2 _) ((Touch.refl [p] w).set (.inl (by simp)) _) rfl rfl rfl HO.out) K2.out K3.out, fun g hg => by have := K3.out g hg; simp [World.setCell] at this; omega⟩
            | false =>
              have HC : Hid (chunkF σ at_ n = false) := Lib.hid (by unfold chunkF; rw [he, hl, h0, h2]; rfl)
              clear he
              go_enter Try.func30, Try.ntmps30
              go_wp2_with fail
              refine (HPT.out.2 hca).mono ?_
              rintro e w2 ⟨v', rfl, k1, k2, k3⟩
              obtain ⟨va, vc, hve⟩ := k1.form
              subst hve
              have K1 := Lib.hid k1
              have K2 := Lib.hid k2
              have K3 := Lib.hid k3
              clear k1 k2 k3
              go_wp2_with fail
              refine bodyPost_ret (v := .tuple #[.int .u64 ((at_ : Nat) : Int), .slice va n vc, .bool false, .bool true]) (by simp [results, Try.results30, go_sem]) rfl ?_
              rw [HC.out, show chunkS σ at_ n = σ from by unfold chunkS; rw [HC.out]; rfl]
              exact ⟨_, rfl, K1.out, StepV.same HH.out K2.out K3.out, K3.out⟩
end Go.Proofs.Ytmidlielcioinaa
