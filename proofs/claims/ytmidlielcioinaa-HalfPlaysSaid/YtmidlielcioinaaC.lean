/- A sending half as blocks of the heap, and the contracts of its smaller methods. Conditions: the half is in order. -/
import Derived.Test.YtmidlielcioinaaB
import Derived.Test.YtmidlielcioinaaRgQ
import Derived.IntWalk
namespace Go.Proofs.Ytmidlielcioinaa
open Go.RowKit

structure Snd where
  b : List Nat
  ended : Bool
  fin : Nat
  top : Nat
  lost : List Rng
  acked : List Rng
  max : Nat
  reset : Bool
/-- The half is in order. -/
structure Snd.Ok (σ : Snd) : Prop where
  lost : V σ.lost 0
  acked : V σ.acked 0
  lt : ∀ x ∈ σ.lost, x.2 < σ.top
  at' : ∀ x ∈ σ.acked, x.2 < σ.top
  top : σ.top ≤ σ.b.length
  tm : σ.top ≤ σ.max
  max : σ.max ≤ 4611686018427387903
  len : σ.b.length ≤ 50000
  fin : σ.fin ≤ 3
def cells (σ : Snd) (ab al : Option Addr) (cb cl q : Nat) : List Value := [.slice ab σ.b.length cb, .bool σ.ended, .int .i64 (σ.fin : Int), .int .i64 (σ.top : Int), .slice al σ.lost.length cl, .pointer (some ⟨q, 0, none⟩), .int .u64 (σ.max : Int), .bool σ.reset]
/-- Block p is the half σ; F: all its blocks. -/
def IsSnd (w : World) (p : Nat) (F : List Nat) (σ : Snd) : Prop :=
  ∃ (ab al : Option Addr) (cb cl q : Nat) (Fq : List Nat), IsBlk w p (cells σ ab al cb cl q) 54 ∧ Sl w 5 1 (.slice ab σ.b.length cb) σ.b.length (bs σ.b) ∧ Sl w 56 2 (.slice al σ.lost.length cl) σ.lost.length (cr σ.lost) ∧ IsS w q 71 Fq σ.acked 0 ∧
    F = p :: (own (.slice ab σ.b.length cb) ++ own (.slice al σ.lost.length cl) ++ Fq) ∧ (p ∉ own (.slice ab σ.b.length cb) ∧ p ∉ own (.slice al σ.lost.length cl) ∧ p ∉ Fq) ∧ (∀ g ∈ own (.slice ab σ.b.length cb), g ∉ own (.slice al σ.lost.length cl) ∧ g ∉ Fq) ∧ (∀ g ∈ own (.slice al σ.lost.length cl), g ∉ Fq) ∧ σ.Ok
/-- What a method makes of a half. -/
def Step (w : World) (p : Nat) (F : List Nat) (σ : Snd) (w' : World) : Prop := ∃ F', IsSnd w' p F' σ ∧ Touch F w w' ∧ ∀ g ∈ F', g ∈ F ∨ w.heap.size ≤ g
section
variable {w w' : World} {p : Nat} {F ks : List Nat} {σ : Snd}
theorem IsSnd.touch (h : IsSnd w p F σ) (hk : Touch ks w w') (hn : ∀ g ∈ F, g ∉ ks) : IsSnd w' p F σ := by
  obtain ⟨ab, al, cb, cl, q, Fq, h1, h2, h3, h4, rfl, h6⟩ := h
  exact ⟨ab, al, cb, cl, q, Fq, h1.touch hk (hn _ (by simp)), h2.touch hk (fun g hg => hn g (by simp [hg])), h3.touch hk (fun g hg => hn g (by simp [hg])), h4.touch hk (fun g hg => hn g (by simp [hg])), rfl, h6⟩
theorem IsSnd.keep (h : IsSnd w p F σ) (hk : Touch [] w w') : IsSnd w' p F σ := h.touch hk (by simp)
theorem IsSnd.lt (h : IsSnd w p F σ) : ∀ g ∈ F, g < w.heap.size := by
  obtain ⟨ab, al, cb, cl, q, Fq, h1, h2, h3, h4, rfl, h6⟩ := h
  intro g hg
  simp only [List.mem_cons, List.mem_append] at hg
  rcases hg with rfl | (hg | hg) | hg
  · exact h1.lt
  · exact h2.lt g hg
  · exact h3.lt g hg
  · exact h4.lt g hg
theorem IsSnd.ok (h : IsSnd w p F σ) : σ.Ok := by
  obtain ⟨ab, al, cb, cl, q, Fq, h1, h2, h3, h4, rfl, _, _, _, h9⟩ := h
  exact h9
theorem Step.same (h : IsSnd w p F σ) (hk : Touch [] w w') : Step w p F σ w' := ⟨F, h.keep hk, hk.mono (by simp), fun g hg => .inl hg⟩
theorem Step.keep {w2 : World} (h : Step w p F σ w') (hk : Touch [] w' w2) : Step w p F σ w2 := by
  obtain ⟨F', h1, h2, h3⟩ := h
  exact ⟨F', h1.keep hk, h2.trans hk (by simp), h3⟩
theorem Step.trans {F' : List Nat} {w2 : World} (hT : Touch F w w') (hF : ∀ g, g ∈ F' → g ∈ F ∨ w.heap.size ≤ g) (h : Step w' p F' σ w2) : Step w p F σ w2 := by
  obtain ⟨F2, h1, h2, h3⟩ := h
  exact ⟨F2, h1, hT.trans h2 hF, fun g hg => (h3 g hg).elim (hF g) (fun h => .inr (Nat.le_trans hT.size h))⟩
end
/-- Only the head's own cells are turned. -/
theorem IsSnd.head {w w' : World} {p : Nat} {σ τ : Snd} {ab al : Option Addr} {cb cl q : Nat} {Fq : List Nat} (h2 : Sl w 5 1 (.slice ab σ.b.length cb) σ.b.length (bs σ.b)) (h3 : Sl w 56 2 (.slice al σ.lost.length cl) σ.lost.length (cr σ.lost)) (h4 : IsS w q 71 Fq σ.acked 0)
    (d1 : p ∉ own (.slice ab σ.b.length cb) ∧ p ∉ own (.slice al σ.lost.length cl) ∧ p ∉ Fq) (d2 : ∀ g ∈ own (.slice ab σ.b.length cb), g ∉ own (.slice al σ.lost.length cl) ∧ g ∉ Fq) (d3 : ∀ g ∈ own (.slice al σ.lost.length cl), g ∉ Fq)
    (hp : IsBlk w' p (cells τ ab al cb cl q) 54) (hT : Touch [p] w w') (e1 : τ.b = σ.b) (e2 : τ.lost = σ.lost) (e3 : τ.acked = σ.acked) (hok : τ.Ok) :
    Step w p (p :: (own (.slice ab σ.b.length cb) ++ own (.slice al σ.lost.length cl) ++ Fq)) τ w' := by
  refine ⟨_, ⟨ab, al, cb, cl, q, Fq, hp, ?_, ?_, ?_, rfl, ?_, ?_, ?_, hok⟩, hT.mono (fun g hg => .inl (by simp at hg; simp [hg])), fun g hg => .inl ?_⟩
  · rw [e1]; exact h2.touch hT (fun g hg hm => by simp at hm; subst hm; exact d1.1 hg)
  · rw [e2]; exact h3.touch hT (fun g hg hm => by simp at hm; subst hm; exact d1.2.1 hg)
  · rw [e3]; exact h4.touch hT (fun g hg hm => by simp at hm; subst hm; exact d1.2.2 hg)
  · rw [e1, e2]; exact d1
  · rw [e1, e2]; exact d2
  · rw [e2]; exact d3
  · rw [e1, e2] at hg; exact hg

theorem grow_any (w : World) (p : Nat) (F : List Nat) (σ : Snd) (n : Nat) (h : IsSnd w p F σ) :
    Calls Try.prog 18 #[.pointer (some ⟨p, 0, none⟩), .int .u64 (n : Int)] w fun e w' => e = .returned (.tuple #[]) ∧ Step w p F { σ with max := max σ.max (min n mx) } w' := by
  obtain ⟨ab, al, cb, cl, q, Fq, h1, h2, h3, h4, rfl, d1, d2, d3, hok⟩ := h
  have c6 := h1.cell 6
  have f6 := h1.frozen 6
  have hl := h1.lt
  simp only [cells, List.getElem?_cons_zero, List.getElem?_cons_succ] at c6
  obtain ⟨m, hm⟩ : ∃ m, m = max σ.max (min n mx) := ⟨_, rfl⟩
  have HM : Hid (max (σ.max : Int) (min (n : Int) 4611686018427387903) = (m : Int)) := Lib.hid (by rw [hm]; unfold mx; omega)
  have HO : Hid (Snd.Ok { σ with max := max σ.max (min n mx) }) := Lib.hid ⟨hok.lost, hok.acked, hok.lt, hok.at', hok.top, Nat.le_trans hok.tm (Nat.le_max_left _ _), by have := hok.max; show max σ.max (min n mx) ≤ _; unfold mx; omega, hok.len, hok.fin⟩
  have H1 := Lib.hid h1
  have HD := Lib.hid (And.intro h2 (And.intro h3 (And.intro h4 (And.intro d1 (And.intro d2 d3)))))
  rw [← hm] at HO ⊢
  clear h1 h2 h3 h4 d1 d2 d3 hok hm
  go_enter Try.func18, Try.ntmps18
  go_wp2_with fail
  go_end0
  obtain ⟨h2, h3, h4, d1, d2, d3⟩ := HD.out
  refine ⟨rfl, IsSnd.head (σ := σ) h2 h3 h4 d1 d2 d3 ?_ ((Touch.refl [p] w).set (.inl (by simp)) _) rfl rfl rfl HO.out⟩
  rw [HM.out]
  exact H1.out.set 6 _

/-- All is acknowledged. -/
def doneB (σ : Snd) : Bool := ((σ.fin : Int) == 3) && ((cnt σ.acked : Int) == (σ.b.length : Int))
set_option maxHeartbeats 1000000 in
theorem done_any (w : World) (p : Nat) (F : List Nat) (σ : Snd) (h : IsSnd w p F σ) :
    Calls Try.prog 37 #[.pointer (some ⟨p, 0, none⟩)] w fun e w' => e = .returned (.bool (doneB σ)) ∧ Touch [] w w' := by
  obtain ⟨ab, al, cb, cl, q, Fq, h1, h2, h3, h4, hF, d1, d2, d3, hok⟩ := h
  have HF := Lib.hid hF
  clear hF
  have c0 := h1.cell 0
  have c2 := h1.cell 2
  have c5 := h1.cell 5
  have hl := h1.lt
  simp only [cells, List.getElem?_cons_zero, List.getElem?_cons_succ] at c0 c2 c5
  have H4 := Lib.hid h4
  have H1 := Lib.hid h1
  have hlen := hok.len
  cases hf : ((σ.fin : Int) == 3) with
  | false =>
    have HR : Hid (doneB σ = false) := Lib.hid (by unfold doneB; rw [hf]; rfl)
    clear h1 h2 h3 h4 d1 d2 d3 hok
    go_enter Try.func37, Try.ntmps37
    go_wp2_with fail
    go_quiet (fail)
    go_wp2_with fail
    go_ret
    exact ⟨ret_b HR.out.symm, (Touch.refl _ _).drewN _⟩
  | true =>
    have hwl : IntKind.u64.wrap (σ.b.length : Int) = (σ.b.length : Int) := IntWalk.u64_in _ (by omega)
    obtain ⟨u, hu⟩ : ∃ u, u = cnt σ.acked := ⟨_, rfl⟩
    have HU := Lib.hid hu
    have HR : Hid (doneB σ = ((u : Int) == (σ.b.length : Int))) := Lib.hid (by unfold doneB; rw [hf, hu]; rfl)
    clear h1 h2 h3 h4 d1 d2 d3 hok hu
    go_enter Try.func37, Try.ntmps37
    go_wp2_with fail
    go_region_held3 (fun w' => w'.cell? ⟨p, 0, none⟩ = some (.slice ab σ.b.length cb) ∧ w'.cell? ⟨p, 2, none⟩ = some (.int .i64 (σ.fin : Int)) ∧ w'.cell? ⟨p, 5, none⟩ = some (.pointer (some ⟨q, 0, none⟩))) (go_keep) (first | (go_at_call 34; refine (count_any _ q Fq σ.acked 0 (H4.out.keep (w' := w.drew) ((Touch.refl _ _).drew))).mono ?_; rw [← HU.out]; rintro e w2 ⟨rfl, hT⟩; have HT := Lib.hid (((Touch.refl [] w).drew).trans hT (by simp)); have b0 := (H1.out.touch HT.out (by simp)).cell 0; have b2 := (H1.out.touch HT.out (by simp)).cell 2; have b5 := (H1.out.touch HT.out (by simp)).cell 5; simp only [cells, List.getElem?_cons_zero, List.getElem?_cons_succ] at b0 b2 b5; clear hT))
    go_wp2_with fail
    go_ret
    exact ⟨ret_b HR.out.symm, HT.out⟩

/-- The names of the states. -/
def vReset : Value := .string ⟨#[114, 101, 115, 101, 116, 32, 115, 101, 110, 116]⟩
def vRecvd : Value := .string ⟨#[100, 97, 116, 97, 32, 114, 101, 99, 118, 100]⟩
def vSent : Value := .string ⟨#[100, 97, 116, 97, 32, 115, 101, 110, 116]⟩
def vReady : Value := .string ⟨#[114, 101, 97, 100, 121]⟩
def vSend : Value := .string ⟨#[115, 101, 110, 100]⟩
def stateV (σ : Snd) : Value := if σ.reset then vReset else if doneB σ then vRecvd else if ((σ.fin : Int) != 0) then vSent else if ((σ.top : Int) == 0) then vReady else vSend
theorem state_any (w : World) (p : Nat) (F : List Nat) (σ : Snd) (h : IsSnd w p F σ) :
    Calls Try.prog 14 #[.pointer (some ⟨p, 0, none⟩)] w fun e w' => e = .returned (stateV σ) ∧ Touch [] w w' := by
  have HD := Lib.hid (done_any w p F σ h)
  have HH := Lib.hid h
  obtain ⟨ab, al, cb, cl, q, Fq, h1, h2, h3, h4, hF, d1, d2, d3, hok⟩ := h
  have HF := Lib.hid hF
  clear hF
  have H1 := Lib.hid h1
  have c7 := h1.cell 7
  have hl := h1.lt
  simp only [cells, List.getElem?_cons_zero, List.getElem?_cons_succ] at c7
  clear h1 h2 h3 h4 d1 d2 d3 hok
  cases hr : σ.reset with
  | true =>
    have HV : Hid (stateV σ = vReset) := Lib.hid (by unfold stateV; rw [hr]; rfl)
    rw [hr] at c7
    clear hr
    go_enter Try.func14, Try.ntmps14
    go_wp2_with fail
    go_ret
    exact ⟨by rw [HV.out]; rfl, Touch.refl _ _⟩
  | false =>
    rw [hr] at c7
    cases hd : doneB σ with
    | true =>
      have HV : Hid (stateV σ = vRecvd) := Lib.hid (by unfold stateV; rw [hr, hd]; rfl)
      have HDB := Lib.hid hd
      clear hr hd
      go_enter Try.func14, Try.ntmps14
      go_wp2_with fail
      refine HD.out.mono ?_
      rw [HDB.out]
      rintro e w2 ⟨rfl, k⟩
      have HT := Lib.hid k
      clear k
      go_wp2_with fail
      go_ret
      exact ⟨by rw [HV.out]; rfl, HT.out⟩
    | false =>
      have HDB := Lib.hid hd
      cases hf : ((σ.fin : Int) != 0) with
      | true =>
        have HV : Hid (stateV σ = vSent) := Lib.hid (by unfold stateV; rw [hr, hd, hf]; rfl)
        clear hr hd
        go_enter Try.func14, Try.ntmps14
        go_wp2_with fail
        refine HD.out.mono ?_
        rw [HDB.out]
        rintro e w2 ⟨rfl, k⟩
        have HT := Lib.hid k
        have b2 := (H1.out.touch k (by simp)).cell 2
        have bl := (H1.out.touch k (by simp)).lt
        simp only [cells, List.getElem?_cons_zero, List.getElem?_cons_succ] at b2
        clear k
        go_wp2_with fail
        go_ret
        exact ⟨by rw [HV.out]; rfl, HT.out⟩
      | false =>
        cases ht : ((σ.top : Int) == 0) with
        | true =>
          have HV : Hid (stateV σ = vReady) := Lib.hid (by unfold stateV; rw [hr, hd, hf, ht]; rfl)
          clear hr hd
          go_enter Try.func14, Try.ntmps14
          go_wp2_with fail
          refine HD.out.mono ?_
          rw [HDB.out]
          rintro e w2 ⟨rfl, k⟩
          have HT := Lib.hid k
          have b2 := (H1.out.touch k (by simp)).cell 2
          have b3 := (H1.out.touch k (by simp)).cell 3
          have bl := (H1.out.touch k (by simp)).lt
          simp only [cells, List.getElem?_cons_zero, List.getElem?_cons_succ] at b2 b3
          clear k
          go_wp2_with fail
          go_ret
          exact ⟨by rw [HV.out]; rfl, HT.out⟩
        | false =>
          have HV : Hid (stateV σ = vSend) := Lib.hid (by unfold stateV; rw [hr, hd, hf, ht]; rfl)
          clear hr hd
          go_enter Try.func14, Try.ntmps14
          go_wp2_with fail
          refine HD.out.mono ?_
          rw [HDB.out]
          rintro e w2 ⟨rfl, k⟩
          have HT := Lib.hid k
          have b2 := (H1.out.touch k (by simp)).cell 2
          have b3 := (H1.out.touch k (by simp)).cell 3
          have bl := (H1.out.touch k (by simp)).lt
          simp only [cells, List.getElem?_cons_zero, List.getElem?_cons_succ] at b2 b3
          clear k
          go_wp2_with fail
          go_ret
          exact ⟨by rw [HV.out]; rfl, HT.out⟩

def resetB (σ : Snd) : Bool := σ.reset || doneB σ
theorem reset_any (w : World) (p : Nat) (F : List Nat) (σ : Snd) (n : Int) (h : IsSnd w p F σ) :
    Calls Try.prog 19 #[.pointer (some ⟨p, 0, none⟩), .int .u64 n] w fun e w' => e = .returned (.tuple #[.int .u64 (if resetB σ then 0 else (σ.top : Int)), .bool (!resetB σ)]) ∧ Step w p F (if resetB σ then σ else { σ with reset := true }) w' := by
  have HD := Lib.hid (done_any w p F σ h)
  have HH := Lib.hid h
  obtain ⟨ab, al, cb, cl, q, Fq, h1, h2, h3, h4, hF, d1, d2, d3, hok⟩ := h
  have HF := Lib.hid hF
  clear hF
  have H1 := Lib.hid h1
  have c7 := h1.cell 7
  have hl := h1.lt
  simp only [cells, List.getElem?_cons_zero, List.getElem?_cons_succ] at c7
  have hto := hok.top
  have hle := hok.len
  have HO : Hid (Snd.Ok { σ with reset := true }) := Lib.hid ⟨hok.lost, hok.acked, hok.lt, hok.at', hok.top, hok.tm, hok.max, hok.len, hok.fin⟩
  have HQ := Lib.hid (And.intro h2 (And.intro h3 (And.intro h4 (And.intro d1 (And.intro d2 d3)))))
  clear h1 h2 h3 h4 d1 d2 d3 hok
  cases hr : σ.reset with
  | true =>
    have HV : Hid (resetB σ = true) := Lib.hid (by unfold resetB; rw [hr]; rfl)
    rw [hr] at c7
    clear hr
    rw [HV.out]
    go_enter Try.func19, Try.ntmps19
    go_wp2_with fail
    go_ret2
    exact ⟨rfl, Step.same HH.out (Touch.refl _ _)⟩
  | false =>
    rw [hr] at c7
    cases hd : doneB σ with
    | true =>
      have HV : Hid (resetB σ = true) := Lib.hid (by unfold resetB; rw [hr, hd]; rfl)
      have HDB := Lib.hid hd
      clear hr hd
      rw [HV.out]
      go_enter Try.func19, Try.ntmps19
      go_wp2_with fail
      refine HD.out.mono ?_
      rw [HDB.out]
      rintro e w2 ⟨rfl, k⟩
      have HT := Lib.hid k
      clear k
      go_wp2_with fail
      go_ret2
      exact ⟨rfl, Step.same HH.out HT.out⟩
    | false =>
      have HV : Hid (resetB σ = false) := Lib.hid (by unfold resetB; rw [hr, hd]; rfl)
      have HDB := Lib.hid hd
      clear hr hd
      rw [HV.out]
      go_enter Try.func19, Try.ntmps19
      go_wp2_with fail
      refine HD.out.mono ?_
      rw [HDB.out]
      rintro e w2 ⟨rfl, k⟩
      have HT := Lib.hid k
      have hb := H1.out.touch k (by simp)
      have HB := Lib.hid hb
      have b7 := hb.cell 7
      have b3 := hb.cell 3
      have f7 := hb.frozen 7
      have bl := hb.lt
      simp only [cells, List.getElem?_cons_zero, List.getElem?_cons_succ] at b7 b3
      clear k hb
      go_wp2_with fail
      go_ret2
      obtain ⟨h2, h3, h4, d1, d2, d3⟩ := HQ.out
      refine ⟨by simp, ?_⟩
      rw [HF.out]
      exact Step.trans (F' := _) (HT.out.mono (by simp)) (fun g hg => .inl hg) (IsSnd.head (σ := σ) (τ := { σ with reset := true }) (h2.touch HT.out (by simp)) (h3.touch HT.out (by simp)) (h4.keep HT.out) d1 d2 d3 (HB.out.set 7 _) ((Touch.refl [p] w2).set (.inl (by simp)) _) rfl rfl rfl HO.out)
end Go.Proofs.Ytmidlielcioinaa
