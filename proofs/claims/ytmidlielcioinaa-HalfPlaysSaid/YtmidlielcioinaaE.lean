/- The contract of Next. Conditions: the half is in order. -/
import Derived.Test.YtmidlielcioinaaD
import Derived.Test.YtmidlielcioinaaH
namespace Go.Proofs.Ytmidlielcioinaa
open Go.RowKit

theorem Sl.none' (w : World) (e : TypeId) (sz : Nat) (a : Addr) (ha : a.spot = none) : Sl w e sz (.slice (Option.some a) 0 0) 0 [] := by
  obtain ⟨g, off, s⟩ := a
  subst ha
  exact ⟨by simp, .inr ⟨g, off, 0, rfl, Nat.le_refl _, Nat.zero_le _, fun h => absurd h (Nat.lt_irrefl 0)⟩⟩
/-- The slice without its first element. -/
theorem Sl.pop {w : World} {al : Option Addr} {cl : Nat} {x : Rng} {rest : List Rng} (h : Sl w 56 2 (.slice al (rest.length + 1) cl) (rest.length + 1) (cr (x :: rest))) :
    ∃ g off, al = Option.some ⟨g, off, none⟩ ∧ rest.length + 1 ≤ cl ∧ (cl = 1 → rest = [] ∧ Sl w 56 2 (.slice (Option.some ⟨g, off, none⟩) 0 0) 0 (cr rest)) ∧ (cl ≠ 1 → Sl w 56 2 (.slice (Option.some ⟨g, off + 2, none⟩) rest.length (cl - 1)) rest.length (cr rest)) := by
  rcases h.cases with ⟨he, h0, _⟩ | ⟨g, off, cap, he, hnc, _⟩
  · omega
  simp at he
  obtain ⟨rfl, rfl⟩ := he
  refine ⟨g, off, rfl, hnc, fun e => ?_, fun e => ?_⟩
  · have : rest = [] := List.eq_nil_of_length_eq_zero (by omega)
    subst this
    exact ⟨rfl, Sl.none' w 56 2 ⟨g, off, none⟩ rfl⟩
  · have := h.part 1 rest.length (cl - 1) (by omega) (by omega) (by omega)
    rw [Nat.one_mul, cr_cons] at this
    have e2 : (Value.int .u64 (x.1 : Int) :: Value.int .u64 (x.2 : Int) :: cr rest).drop 2 = cr rest := rfl
    rw [e2, List.take_of_length_le (by rw [cr_len]; omega)] at this
    exact this
/-- Another list of lost ranges in the head. -/
theorem IsSnd.lost' {w w' : World} {p : Nat} {σ : Snd} {ab al al' : Option Addr} {cb cl cl' q : Nat} {Fq : List Nat} {L : List Rng} (h1 : IsBlk w p (cells σ ab al cb cl q) 54) (h2 : Sl w 5 1 (.slice ab σ.b.length cb) σ.b.length (bs σ.b)) (h4 : IsS w q 71 Fq σ.acked 0)
    (d1 : p ∉ own (.slice ab σ.b.length cb) ∧ p ∉ own (.slice al σ.lost.length cl) ∧ p ∉ Fq) (d2 : ∀ g ∈ own (.slice ab σ.b.length cb), g ∉ own (.slice al σ.lost.length cl) ∧ g ∉ Fq) (d3 : ∀ g ∈ own (.slice al σ.lost.length cl), g ∉ Fq)
    (hT : Touch (own (.slice al σ.lost.length cl)) w w') (hL : Sl w' 56 2 (.slice al' L.length cl') L.length (cr L)) (ho : ∀ g ∈ own (.slice al' L.length cl'), g ∈ own (.slice al σ.lost.length cl) ∨ w.heap.size ≤ g) (hok : Snd.Ok { σ with lost := L }) :
    Step w p (p :: (own (.slice ab σ.b.length cb) ++ own (.slice al σ.lost.length cl) ++ Fq)) { σ with lost := L } (w'.setCell ⟨p, 4, none⟩ (.slice al' L.length cl')) := by
  have hTp : Touch [p] w' (w'.setCell ⟨p, 4, none⟩ (.slice al' L.length cl')) := (Touch.refl [p] w').set (.inl (by simp)) _
  have hno : ∀ g ∈ own (.slice al' L.length cl'), g ≠ p ∧ g ∉ own (.slice ab σ.b.length cb) ∧ g ∉ Fq := fun g hg => by
    rcases ho g hg with h | h
    · exact ⟨fun e => d1.2.1 (by rw [← e]; exact h), fun hm => (d2 g hm).1 h, d3 g h⟩
    · exact ⟨fun e => by have := h1.lt; omega, fun hm => by have := h2.lt g hm; omega, fun hm => by have := h4.lt g hm; omega⟩
  refine ⟨p :: (own (.slice ab σ.b.length cb) ++ own (.slice al' L.length cl') ++ Fq), ⟨ab, al', cb, cl', q, Fq, ?_, ?_, ?_, ?_, rfl, ?_, ?_, ?_, hok⟩, ?_, ?_⟩
  · exact (h1.touch hT d1.2.1).set 4 _
  · exact (h2.touch hT (fun g hg hm => (d2 g hg).1 hm)).touch hTp (fun g hg hm => d1.1 (by simp at hm; rw [← hm]; exact hg))
  · exact hL.touch hTp (fun g hg hm => (hno g hg).1 (by simpa using hm))
  · exact (h4.touch hT (fun g hg hm => d3 g hm hg)).touch hTp (fun g hg hm => d1.2.2 (by simp at hm; rw [← hm]; exact hg))
  · exact ⟨d1.1, fun hm => (hno p hm).1 rfl, d1.2.2⟩
  · exact fun g hg => ⟨fun hm => (hno g hm).2.1 hg, (d2 g hg).2⟩
  · exact fun g hg => (hno g hg).2.2
  · exact (hT.mono (fun g hg => .inl (by simp [hg]))).trans hTp (fun g hg => .inl (by simp at hg; simp [hg]))
  · intro g hg
    simp only [List.mem_cons, List.mem_append] at hg ⊢
    rcases hg with hg | (hg | hg) | hg
    · exact .inl (.inl hg)
    · exact .inl (.inr (.inl (.inl hg)))
    · rcases ho g hg with h | h
      · exact .inl (.inr (.inl (.inr h)))
      · exact .inr h
    · exact .inl (.inr (.inr hg))

def bytesAt (σ : Snd) (at_ n : Nat) : List Nat := (σ.b.drop at_).take n
def popL (r : Rng) (rest : List Rng) (m : Nat) : List Rng := if m ≤ r.2 - r.1 then (r.1 + m, r.2) :: rest else rest
/-- What Next tells, and what it leaves. -/
def nextS (σ : Snd) (n : Nat) : (Nat × List Nat × Bool × Bool) × Snd :=
  if σ.reset then ((0, [], false, false), σ)
  else match σ.lost with
    | r :: rest => if 0 < n then ((r.1, bytesAt σ r.1 (min n (r.2 - r.1 + 1)), chunkF { σ with lost := popL r rest (min n (r.2 - r.1 + 1)) } r.1 (min n (r.2 - r.1 + 1)), true), chunkS { σ with lost := popL r rest (min n (r.2 - r.1 + 1)) } r.1 (min n (r.2 - r.1 + 1))) else ((0, [], false, false), σ)
    | [] => if 0 < min n (min σ.b.length σ.max - σ.top) then ((σ.top, bytesAt σ σ.top (min n (min σ.b.length σ.max - σ.top)), chunkF { σ with top := σ.top + min n (min σ.b.length σ.max - σ.top) } σ.top (min n (min σ.b.length σ.max - σ.top)), true), chunkS { σ with top := σ.top + min n (min σ.b.length σ.max - σ.top) } σ.top (min n (min σ.b.length σ.max - σ.top)))
      else if chunkF σ σ.top 0 then ((σ.top, [], true, true), chunkS σ σ.top 0) else ((0, [], false, false), σ)
def NextP (w : World) (p : Nat) (F : List Nat) (R : (Nat × List Nat × Bool × Bool) × Snd) (e : Ending) (w' : World) : Prop :=
  ∃ v, e = .returned (.tuple #[.int .u64 (R.1.1 : Int), v, .bool R.1.2.2.1, .bool R.1.2.2.2]) ∧ Rd w' 1 v R.1.2.1.length (bs R.1.2.1) ∧ StepV w p F R.2 w' v ∧ ∀ g ∈ own v, w.heap.size ≤ g
theorem bytesAt_len (σ : Snd) (at_ n : Nat) (h : at_ + n ≤ σ.b.length) : (bytesAt σ at_ n).length = n := by unfold bytesAt; simp; omega

theorem pop_ok {σ : Snd} {x : Rng} {rest : List Rng} (hok : σ.Ok) (h : σ.lost = x :: rest) (m : Nat) : Snd.Ok { σ with lost := popL x rest m } := by
  have hV := hok.lost
  have hlt := hok.lt
  rw [h] at hV hlt
  have hx := hV.2 x (by simp)
  refine ⟨?_, hok.acked, ?_, hok.at', hok.top, hok.tm, hok.max, hok.len, hok.fin⟩
  · show V (popL x rest m) 0
    unfold popL
    split
    · refine ⟨List.pairwise_cons.2 ⟨fun y hy => hV.head y hy, hV.tail.1⟩, fun y hy => ?_⟩
      rcases List.mem_cons.1 hy with rfl | hy
      · exact ⟨Nat.zero_le _, by show x.1 + m ≤ x.2; omega, hx.2.2⟩
      · exact hV.2 y (by simp [hy])
    · exact hV.tail
  · show ∀ y ∈ popL x rest m, y.2 < σ.top
    unfold popL
    split
    · intro y hy
      rcases List.mem_cons.1 hy with rfl | hy
      · exact hlt x (by simp)
      · exact hlt y (by simp [hy])
    · exact fun y hy => hlt y (by simp [hy])

set_option maxRecDepth 100000 in
set_option maxHeartbeats 8000000 in
theorem next_lost (w : World) (p : Nat) (F : List Nat) (σ : Snd) (n : Int) (x1 x2 : Nat) (rest : List Rng) (h : IsSnd w p F σ) (hn : n ≤ 9223372036854775807) (hn0 : 0 < n) (hr : σ.reset = false) (hlo : σ.lost = (x1, x2) :: rest) :
    Calls Try.prog 11 #[.pointer (some ⟨p, 0, none⟩), .int .i64 n] w (NextP w p F (nextS σ n.toNat)) := by
  have hok := h.ok
  have hV := hok.lost
  have hlt := hok.lt
  rw [hlo] at hV hlt
  have hx := hV.2 (x1, x2) (by simp)
  have hx12 : x1 ≤ x2 := hx.2.1
  have hxt : x2 < σ.top := hlt (x1, x2) (by simp)
  have hlen := hok.len
  have hto := hok.top
  obtain ⟨m, hm⟩ : ∃ m, m = min n.toNat (x2 - x1 + 1) := ⟨_, rfl⟩
  have hm1 : 1 ≤ m ∧ m ≤ x2 - x1 + 1 := by omega
  have HM : Hid (min n ((x2 : Int) - (x1 : Int) + 1) = (m : Int)) := Lib.hid (by omega)
  have HP : Hid (nextS σ n.toNat = ((x1, bytesAt σ x1 m, chunkF { σ with lost := popL (x1, x2) rest m } x1 m, true), chunkS { σ with lost := popL (x1, x2) rest m } x1 m)) := Lib.hid (by
    unfold nextS
    rw [hr, hlo, hm]
    simp only [Bool.false_eq_true, if_false]
    rw [if_pos (by omega)])
  have HO := Lib.hid (pop_ok hok hlo m)
  have HBL := Lib.hid (bytesAt_len σ x1 m (by omega))
  rw [HP.out]
  obtain ⟨ab, al, cb, cl, q, Fq, h1, h2, h3, h4, hF, d1, d2, d3, _⟩ := h
  have HF := Lib.hid hF
  have h3' := h3
  rw [hlo] at h3'
  obtain ⟨g, off, rfl, hcl, hp1, hp2⟩ := Sl.pop h3'
  have hrt := h3'.rd.two (by simp) 0 (x1, x2) rfl
  obtain ⟨e1, e2, hg⟩ := hrt
  rw [Nat.zero_mul, Nat.add_zero] at e1 e2
  have c4 := h1.cell 4
  have f4 := h1.frozen 4
  have c7 := h1.cell 7
  have hpl := h1.lt
  simp only [cells, List.getElem?_cons_zero, List.getElem?_cons_succ] at c4 c7
  rw [hr] at c7
  rw [hlo, List.length_cons] at c4
  have hmax : max n 0 = n := by omega
  have H1 := Lib.hid h1
  have HQ := Lib.hid (And.intro h2 (And.intro h3 (And.intro h4 (And.intro d1 (And.intro d2 d3)))))
  have hgp : ¬ g = p := fun e => d1.2.1 (by rw [own_some _ _ _ (by omega), ← e]; simp)
  have hpg : ¬ p = g := fun e => hgp e.symm
  have hcl1 : (1 : Int) ≤ (cl : Int) := by omega
  have hrl : rest.length ≤ 50000 := by have := V_len σ.lost 0 0 σ.top hok.lost (fun x hx => ⟨Nat.zero_le _, hok.lt x hx⟩) (Nat.zero_le _); rw [hlo, List.length_cons] at this; omega
  clear hok hV hlt hx hF h1 h2 h3 h3' h4 d1 d2 d3 hm
  clear hr hlo
  go_enter Try.func11, Try.ntmps11
  by_cases hc1 : cl = 1
  · obtain ⟨hr0, hs0⟩ := hp1 hc1
    subst hr0
    obtain ⟨bx, hbx⟩ : ∃ bx, bx = w.heap.size := ⟨_, rfl⟩
    have HBX := Lib.hid hbx
    have HS0 : Hid (Sl w 56 2 (.slice (some ⟨g, off, none⟩) 0 (0)) 0 (cr [])) := Lib.hid hs0
    have HOS : Hid (∀ g' ∈ own (.slice (some ⟨g, off, none⟩) 0 (0)), g' ∈ own (.slice (some ⟨g, off, none⟩) σ.lost.length cl)) := Lib.hid fun g' hg' => by rw [(mem_own hg').1, own_some _ _ _ (by omega)]; simp
    have HTp : Hid (Touch [p] w (w.setCell ⟨p, 4, none⟩ (.slice (some ⟨g, off, none⟩) 0 (0)))) := Lib.hid ((Touch.refl [p] w).set (.inl (by simp)) _)
    have HPW : Hid (p ∉ own (.slice (some ⟨g, off, none⟩) σ.lost.length cl)) := Lib.hid HQ.out.2.2.2.1.2.1
    go_upto_region 7 with (fail)
    rw [HM.out]
    go_upto_region 8 with (fail)
    obtain ⟨W1, hW1⟩ : ∃ W1, W1 = (w.setCell ⟨p, 4, none⟩ (.slice (some ⟨g, off, none⟩) 0 (0))).alloc (.cells #[.int .u64 (x1 : Int), .int .u64 (x2 : Int)] 56) := ⟨_, rfl⟩
    rw [← hW1]
    have HT1 : Hid (Touch [p] w W1) := Lib.hid (by rw [hW1]; exact HTp.out.alloc _)
    have HB1 : Hid (IsBlk W1 p (cells { σ with lost := [] } ab (some ⟨g, off, none⟩) cb (0) q) 54) := Lib.hid (by rw [hW1]; exact (H1.out.set 4 _).alloc _)
    have HXB : Hid (IsBlk W1 bx [.int .u64 (x1 : Int), .int .u64 (x2 : Int)] 56) := Lib.hid (by rw [hW1, hbx]; have := IsBlk.new (w.setCell ⟨p, 4, none⟩ (.slice (some ⟨g, off, none⟩) 0 (0))) [.int .u64 (x1 : Int), .int .u64 (x2 : Int)] 56; simpa [World.setCell] using this)
    have HS1 : Hid (Sl W1 56 2 (.slice (some ⟨g, off, none⟩) 0 (0)) 0 (cr [])) := Lib.hid (HS0.out.touch HT1.out (fun g' hg' hm => HPW.out (by simp at hm; rw [← hm]; exact HOS.out g' hg')))
    have HPO : Hid (p ∉ own (.slice (some ⟨g, off, none⟩) 0 (0))) := Lib.hid fun hm => HPW.out (HOS.out p hm)
    have HXO : Hid (bx ∉ own (.slice (some ⟨g, off, none⟩) 0 (0))) := Lib.hid fun hm => by have := HS0.out.lt _ hm; have := HBX.out; omega
    have hxz : W1.heap.size = w.heap.size + 1 := by rw [hW1]; simp [World.setCell]
    have HXZ := Lib.hid hxz
    have x0 := HXB.out.cell 0
    have x1' := HXB.out.cell 1
    have b4 := HB1.out.cell 4
    have g4 := HB1.out.frozen 4
    have bl := HB1.out.lt
    have xl := HXB.out.lt
    simp only [cells, List.getElem?_cons_zero, List.getElem?_cons_succ] at b4 x0 x1'
    rw [← hbx]
    have hnp : ¬ bx = p := by omega
    have hpn : ¬ p = bx := fun e => hnp e.symm
    clear hW1 hxz c4 f4 e1 e2 hbx
    have hwm : IntKind.u64.wrap (m : Int) = (m : Int) := IntWalk.u64_in _ (by omega)
    by_cases hmx : (m : Int) ≤ (x2 : Int) - (x1 : Int)
    · have HPL : Hid (popL (x1, x2) [] m = (x1 + m, x2) :: []) := Lib.hid (if_pos (by show m ≤ x2 - x1; omega))
      have hws : IntKind.u64.wrap ((x1 : Int) + (m : Int)) = (x1 : Int) + (m : Int) := IntWalk.u64_in _ (by omega)
      have HNB : Hid (Sl (W1.alloc (.cells #[.int .u64 ((x1 : Int) + (m : Int)), .int .u64 (x2 : Int)] 56)).drew 56 2 (.slice (some ⟨W1.heap.size, 0, none⟩) 1 1) 1 (cr [(x1 + m, x2)])) := Lib.hid ((Sl.new W1 (x1 + m, x2)).touch ((Touch.refl [] _).drew) (by simp))
      go_wp2_with fail
      refine wp_region_hold (fun w' => w'.cell? ⟨bx, 0, none⟩ = some (.int .u64 (x1 : Int)) ∧ w'.cell? ⟨bx, 1, none⟩ = some (.int .u64 (x2 : Int))) (fun w' => w'.cell? ⟨p, 4, none⟩ = some (.slice (some ⟨g, off, none⟩) 0 (0))) [17] [false, false, false, false, false, false, false, false, false, false, false, false, false, false, false, false, false, false] (by kernel_rfl) (by kernel_rfl) (by exact ⟨x0, x1'⟩) (by exact b4) (fun hS => ?_)
      refine takeG (i := 0) (v := ?_) rfl (by kernel_rfl) (by kernel_rfl) (by kernel_rfl) (by kernel_rfl) (fun _ _ _ h => h) (Or.inl ⟨by rfl, ?_⟩) hS (fun hT => ?_)
      rotate_left
      · intro w hC; (try dsimp only at hC); go_simp; try with_reducible rfl
      clear hS
      have hS := hT
      clear hT
      simp only [Act.put, List.setIfInBounds_toArray, List.set_cons_zero] at hS ⊢
      refine takeG (i := 1) (v := ?_) rfl (by kernel_rfl) (by kernel_rfl) (by kernel_rfl) (by kernel_rfl) (fun _ _ _ h => h) (Or.inl ⟨by rfl, ?_⟩) hS (fun hT => ?_)
      rotate_left
      · intro w hC; (try dsimp only at hC); go_simp; try with_reducible rfl
      clear hS
      have hS := hT
      clear hT
      simp only [Act.put, List.setIfInBounds_toArray, List.set_cons_zero, List.set_cons_succ] at hS ⊢
      refine takeG (i := 2) (v := ?_) rfl (by kernel_rfl) (by kernel_rfl) (by kernel_rfl) (by kernel_rfl) (fun _ _ _ h => h) (Or.inl ⟨by rfl, ?_⟩) hS (fun hT => ?_)
      rotate_left
      · intro w hC; (try dsimp only at hC); go_simp; try with_reducible rfl
      clear hS
      have hS := hT
      clear hT
      simp only [Act.put, List.setIfInBounds_toArray, List.set_cons_zero, List.set_cons_succ] at hS ⊢
      refine takeG (i := 3) (v := ?_) rfl (by kernel_rfl) (by kernel_rfl) (by kernel_rfl) (by kernel_rfl) (fun _ _ _ h => h) (Or.inl ⟨by rfl, ?_⟩) hS (fun hT => ?_)
      rotate_left
      · intro w hC; (try dsimp only at hC); go_simp; try with_reducible rfl
      clear hS
      have hS := hT
      clear hT
      simp only [Act.put, List.setIfInBounds_toArray, List.set_cons_zero, List.set_cons_succ] at hS ⊢
      refine takeG1 (i := 4) (v := ?_) rfl (by kernel_rfl) (by kernel_rfl) (by kernel_rfl) (by kernel_rfl) (by kernel_rfl) (by kernel_rfl) (fun _ _ _ h => h) (Or.inl ⟨by rfl, ?_⟩) hS (fun hT => ?_)
      rotate_left
      · intro w hC; (try dsimp only at hC); go_simp; try with_reducible rfl
      clear hS
      have hS := hT
      clear hT
      simp only [Act.put, List.setIfInBounds_toArray, List.set_cons_zero, List.set_cons_succ] at hS ⊢
      refine takeG (i := 5) (v := ?_) rfl (by kernel_rfl) (by kernel_rfl) (by kernel_rfl) (by kernel_rfl) (fun _ _ _ h => h) (Or.inl ⟨by rfl, ?_⟩) hS (fun hT => ?_)
      rotate_left
      · intro w hC; (try dsimp only at hC); go_simp; try with_reducible rfl
      clear hS
      have hS := hT
      clear hT
      simp only [Act.put, List.setIfInBounds_toArray, List.set_cons_zero, List.set_cons_succ] at hS ⊢
      refine takeG (i := 6) (v := ?_) rfl (by kernel_rfl) (by kernel_rfl) (by kernel_rfl) (by kernel_rfl) (fun _ _ _ h => h) (Or.inl ⟨by rfl, ?_⟩) hS (fun hT => ?_)
      rotate_left
      · intro w hC; (try dsimp only at hC); go_simp; try with_reducible rfl
      clear hS
      have hS := hT
      clear hT
      simp only [Act.put, List.setIfInBounds_toArray, List.set_cons_zero, List.set_cons_succ] at hS ⊢
      refine takeG (i := 7) (v := ?_) rfl (by kernel_rfl) (by kernel_rfl) (by kernel_rfl) (by kernel_rfl) (fun _ _ _ h => h) (Or.inl ⟨by rfl, ?_⟩) hS (fun hT => ?_)
      rotate_left
      · intro w hC; (try dsimp only at hC); go_simp; try with_reducible rfl
      clear hS
      have hS := hT
      clear hT
      simp only [Act.put, List.setIfInBounds_toArray, List.set_cons_zero, List.set_cons_succ] at hS ⊢
      refine takeG (i := 8) (v := ?_) rfl (by kernel_rfl) (by kernel_rfl) (by kernel_rfl) (by kernel_rfl) (fun _ _ _ h => h) (Or.inl ⟨by rfl, ?_⟩) hS (fun hT => ?_)
      rotate_left
      · intro w hC; (try dsimp only at hC); go_simp; try with_reducible rfl
      clear hS
      have hS := hT
      clear hT
      simp only [Act.put, List.setIfInBounds_toArray, List.set_cons_zero, List.set_cons_succ] at hS ⊢
      refine takeG (i := 9) (v := ?_) rfl (by kernel_rfl) (by kernel_rfl) (by kernel_rfl) (by kernel_rfl) (fun _ _ _ h => h) (Or.inl ⟨by rfl, ?_⟩) hS (fun hT => ?_)
      rotate_left
      · intro w hC; (try dsimp only at hC); go_simp; try with_reducible rfl
      clear hS
      have hS := hT
      clear hT
      simp only [Act.put, List.setIfInBounds_toArray, List.set_cons_zero, List.set_cons_succ] at hS ⊢
      refine takeG (i := 10) (v := ?_) rfl (by kernel_rfl) (by kernel_rfl) (by kernel_rfl) (by kernel_rfl) (fun _ _ _ h => h) (Or.inl ⟨by rfl, ?_⟩) hS (fun hT => ?_)
      rotate_left
      · intro w hC; (try dsimp only at hC); go_simp; try with_reducible rfl
      clear hS
      have hS := hT
      clear hT
      simp only [Act.put, List.setIfInBounds_toArray, List.set_cons_zero, List.set_cons_succ] at hS ⊢
      refine takeG (i := 11) (v := ?_) rfl (by kernel_rfl) (by kernel_rfl) (by kernel_rfl) (by kernel_rfl) (fun _ _ _ h => h) (Or.inl ⟨by rfl, ?_⟩) hS (fun hT => ?_)
      rotate_left
      · intro w hC; (try dsimp only at hC); go_simp; try with_reducible rfl
      clear hS
      have hS := hT
      clear hT
      simp only [Act.put, List.setIfInBounds_toArray, List.set_cons_zero, List.set_cons_succ] at hS ⊢
      refine takeG (i := 12) (v := ?_) rfl (by kernel_rfl) (by kernel_rfl) (by kernel_rfl) (by kernel_rfl) (fun _ _ _ h => h) (Or.inl ⟨by rfl, ?_⟩) hS (fun hT => ?_)
      rotate_left
      · intro w hC; (try dsimp only at hC); go_simp; try with_reducible rfl
      clear hS
      have hS := hT
      clear hT
      simp only [Act.put, List.setIfInBounds_toArray, List.set_cons_zero, List.set_cons_succ] at hS ⊢
      refine oneG (i := 13) (by kernel_rfl) rfl (fun K hK => ?_)
      go_simp
      refine hK.out _ _ ⟨?_, fun hu => ?_⟩ (fun hT => ?_)
      · go_keep
      · go_keep
      clear hS
      have hS := hT
      clear hT
      simp only [List.setIfInBounds_toArray, List.set_cons_zero, List.set_cons_succ] at hS ⊢
      clear hK K
      refine oneG (i := 14) (by kernel_rfl) rfl (fun K hK => ?_)
      (go_simp; go_at_call 29; refine (insert_any (W1.alloc (.cells #[.int .u64 ((x1 : Int) + (m : Int)), .int .u64 (x2 : Int)] 56)).drew (.slice (some ⟨g, off, none⟩) 0 (0)) 0 0 W1.heap.size (cr []) (cr [(x1 + m, x2)]) (HS1.out.touch (ks := []) (((Touch.refl _ _).alloc _).drew) (by simp)) HNB.out (Nat.zero_le _) (fun hm => by have := HS1.out.lt _ hm; omega) (by omega) (cr_one _) (cr_one _)).mono ?_; rintro e w5 ⟨v5, rfl, k1, k2, k3⟩; obtain ⟨a5, c5, hv5, _⟩ := k1.form; subst hv5; have K1 := Lib.hid k1; have K2 : Hid (Touch (own (.slice (some ⟨g, off, none⟩) 0 (0))) W1 w5) := Lib.hid ((((Touch.refl [] W1).alloc (.cells #[.int .u64 ((x1 : Int) + (m : Int)), .int .u64 (x2 : Int)] 56)).drew.mono (by simp)).trans k2 (fun g hg => .inl hg)); have K3 : Hid (∀ g' ∈ own (.slice a5 1 c5), g' ∈ own (.slice (some ⟨g, off, none⟩) 0 (0)) ∨ W1.heap.size ≤ g') := Lib.hid (fun g' hg' => (k3 g' hg').elim .inl (fun h => .inr (by simp at h; omega))); have HX5 := Lib.hid (HXB.out.touch K2.out HXO.out); have x50 := HX5.out.cell 0; have x51 := HX5.out.cell 1; have HB5 := Lib.hid (HB1.out.touch K2.out HPO.out); have b54 := HB5.out.cell 4; have f54 := HB5.out.frozen 4; have bl5 := HB5.out.lt; have xl5 := HX5.out.lt; simp only [cells, List.getElem?_cons_zero, List.getElem?_cons_succ] at b54 x50 x51; clear k1 k2 k3; go_wp2_with fail)
      refine hK.out _ _ ⟨?_, fun hu => ?_⟩ (fun hT => ?_)
      · exact ⟨x50, x51⟩
      · exact b54
      clear hS
      have hS := hT
      clear hT
      simp only [List.setIfInBounds_toArray, List.set_cons_zero, List.set_cons_succ] at hS ⊢
      clear hK K
      refine takeG (i := 15) (v := ?_) rfl (by kernel_rfl) (by kernel_rfl) (by kernel_rfl) (by kernel_rfl) (fun _ _ _ h => h) (Or.inl ⟨by rfl, ?_⟩) hS (fun hT => ?_)
      rotate_left
      · intro w hC; (try dsimp only at hC); go_simp; try with_reducible rfl
      clear hS
      have hS := hT
      clear hT
      simp only [Act.put, List.setIfInBounds_toArray, List.set_cons_zero, List.set_cons_succ] at hS ⊢
      refine takeG (i := 16) (v := ?_) rfl (by kernel_rfl) (by kernel_rfl) (by kernel_rfl) (by kernel_rfl) (fun _ _ _ h => h) (Or.inl ⟨by rfl, ?_⟩) hS (fun hT => ?_)
      rotate_left
      · intro w hC; (try dsimp only at hC); go_simp; try with_reducible rfl
      clear hS
      have hS := hT
      clear hT
      simp only [Act.put, List.setIfInBounds_toArray, List.set_cons_zero, List.set_cons_succ] at hS ⊢
      refine oneG (i := 17) (by kernel_rfl) rfl (fun K hK => ?_)
      go_simp
      refine hK.out _ _ ⟨?_, fun hu => ?_⟩ (fun hT => ?_)
      · go_keep
      · exact absurd hu (by decide)
      clear hS
      have hS := hT
      clear hT
      simp only [List.setIfInBounds_toArray, List.set_cons_zero, List.set_cons_succ] at hS ⊢
      clear hK K
      refine wpAnyG_done (by kernel_rfl) ?_ _
      clear hS
      obtain ⟨h2, h3, h4, d1, d2, d3⟩ := HQ.out
      have hcr5 : (cr []).take (0 * 2) ++ cr [(x1 + m, x2)] ++ (cr []).drop (0 * 2) = cr (popL (x1, x2) [] m) := by rw [HPL.out]; simp [cr]
      have hle5 : (popL (x1, x2) [] m).length = 1 := by rw [HPL.out]; rfl
      have hst : Step W1 p (p :: (own (.slice ab σ.b.length cb) ++ own (.slice (some ⟨g, off, none⟩) 0 (0)) ++ Fq)) { σ with lost := popL (x1, x2) [] m } (w5.setCell ⟨p, 4, none⟩ (.slice a5 (popL (x1, x2) [] m).length c5)) := by
        refine IsSnd.lost' (σ := { σ with lost := [] }) HB1.out (h2.touch HT1.out (fun g' hg' hm => d1.1 (by simp at hm; rw [← hm]; exact hg'))) (h4.touch HT1.out (fun g' hg' hm => d1.2.2 (by simp at hm; rw [← hm]; exact hg'))) ⟨d1.1, HPO.out, d1.2.2⟩ (fun g' hg' => ⟨fun hm => (d2 g' hg').1 (HOS.out g' hm), (d2 g' hg').2⟩) (fun g' hg' => d3 g' (HOS.out g' hg')) K2.out ?_ ?_ HO.out
        · rw [hle5, ← hcr5]; exact K1.out
        · rw [hle5]; exact K3.out
      rw [hle5] at hst
      have hst2 : Step w p F { σ with lost := popL (x1, x2) [] m } (w5.setCell ⟨p, 4, none⟩ (.slice a5 1 c5)) := by
        rw [HF.out]
        refine Step.trans (HT1.out.mono (by simp)) (fun g' hg' => .inl ?_) hst
        simp only [List.mem_cons, List.mem_append] at hg' ⊢
        rcases hg' with hg' | (hg' | hg') | hg'
        · exact .inl hg'
        · exact .inr (.inl (.inl hg'))
        · exact .inr (.inl (.inr (HOS.out g' hg')))
        · exact .inr (.inr hg')
      have HST := Lib.hid hst2
      have x60 := (HX5.out.set_other (m := p) (j := 4) (s := none) hpn (.slice a5 1 c5)).cell 0
      have x6l := (HX5.out.set_other (m := p) (j := 4) (s := none) hpn (.slice a5 1 c5)).lt
      simp only [List.getElem?_cons_zero] at x60
      obtain ⟨W6, hW6⟩ : ∃ W6, W6 = w5.setCell ⟨p, 4, none⟩ (.slice a5 1 c5) := ⟨_, rfl⟩
      rw [← hW6] at HST x60 x6l ⊢
      clear hst hst2 h2 h3 h4 d1 d2 d3 hW6 hcr5 hle5 x0 x1' b4 x50 x51 b54
      obtain ⟨F6, g1, g2, g3⟩ := HST.out
      have G1 := Lib.hid g1
      have G2 := Lib.hid g2
      have G3 := Lib.hid g3
      clear g1 g2 g3
      go_wp2_with fail
      refine (chunk_any _ p F6 { σ with lost := popL (x1, x2) [] m } x1 m G1.out (by show x1 + m ≤ σ.b.length; omega)).mono ?_
      rintro e w7 ⟨v7, rfl, k1, k2, k3⟩
      obtain ⟨va, vc, hve⟩ := k1.form
      subst hve
      have K71 := Lib.hid k1
      have K72 := Lib.hid (StepV.trans G2.out G3.out k2)
      have K73 := Lib.hid (fun g' hg' => Nat.le_trans G2.out.size (k3 g' hg'))
      clear k1 k2 k3
      go_wp2_with fail
      refine bodyPost_ret (v := .tuple #[.int .u64 (x1 : Int), .slice va m vc, .bool (chunkF { σ with lost := popL (x1, x2) [] m } x1 m), .bool true]) (by simp [results, Try.results11, go_sem]) rfl ?_
      refine ⟨.slice va m vc, rfl, ?_, K72.out, K73.out⟩
      show Rd w7 1 (.slice va m vc) (bytesAt σ x1 m).length (bs (bytesAt σ x1 m))
      rw [HBL.out]
      exact K71.out
    · have hmm : m = x2 - x1 + 1 := by omega
      have HPL : Hid (popL (x1, x2) [] m = []) := Lib.hid (if_neg (by show ¬ m ≤ x2 - x1; omega))
      have hst2 : Step w p F { σ with lost := [] } W1 := by
        obtain ⟨h2, h3, h4, d1, d2, d3⟩ := HQ.out
        rw [HF.out]
        have HO2 := HO.out
        rw [HPL.out] at HO2
        refine ⟨p :: (own (.slice ab σ.b.length cb) ++ own (.slice (some ⟨g, off, none⟩) 0 (0)) ++ Fq), ⟨ab, some ⟨g, off, none⟩, cb, 0, q, Fq, HB1.out, ?_, HS1.out, ?_, rfl, ⟨d1.1, HPO.out, d1.2.2⟩, fun g' hg' => ⟨fun hm => (d2 g' hg').1 (HOS.out g' hm), (d2 g' hg').2⟩, fun g' hg' => d3 g' (HOS.out g' hg'), HO2⟩, HT1.out.mono (by simp), fun g' hg' => .inl ?_⟩
        · exact h2.touch HT1.out (fun g' hg' hm => d1.1 (by simp at hm; rw [← hm]; exact hg'))
        · exact h4.touch HT1.out (fun g' hg' hm => d1.2.2 (by simp at hm; rw [← hm]; exact hg'))
        · simp only [List.mem_cons, List.mem_append] at hg' ⊢
          rcases hg' with hg' | (hg' | hg') | hg'
          · exact .inl hg'
          · exact .inr (.inl (.inl hg'))
          · exact .inr (.inl (.inr (HOS.out g' hg')))
          · exact .inr (.inr hg')
      have HST := Lib.hid hst2
      clear hst2
      rw [← HPL.out] at HST
      obtain ⟨F6, g1, g2, g3⟩ := HST.out
      have G1 := Lib.hid g1
      have G2 := Lib.hid g2
      have G3 := Lib.hid g3
      clear g1 g2 g3 hmm
      go_wp2_with fail
      refine (chunk_any _ p F6 { σ with lost := popL (x1, x2) [] m } x1 m G1.out (by show x1 + m ≤ σ.b.length; omega)).mono ?_
      rintro e w7 ⟨v7, rfl, k1, k2, k3⟩
      obtain ⟨va, vc, hve⟩ := k1.form
      subst hve
      have K71 := Lib.hid k1
      have K72 := Lib.hid (StepV.trans G2.out G3.out k2)
      have K73 := Lib.hid (fun g' hg' => Nat.le_trans G2.out.size (k3 g' hg'))
      clear k1 k2 k3
      go_wp2_with fail
      refine bodyPost_ret (v := .tuple #[.int .u64 (x1 : Int), .slice va m vc, .bool (chunkF { σ with lost := popL (x1, x2) [] m } x1 m), .bool true]) (by simp [results, Try.results11, go_sem]) rfl ?_
      refine ⟨.slice va m vc, rfl, ?_, K72.out, K73.out⟩
      show Rd w7 1 (.slice va m vc) (bytesAt σ x1 m).length (bs (bytesAt σ x1 m))
      rw [HBL.out]
      exact K71.out
  · obtain ⟨bx, hbx⟩ : ∃ bx, bx = w.heap.size := ⟨_, rfl⟩
    have HBX := Lib.hid hbx
    have HS0 : Hid (Sl w 56 2 (.slice (some ⟨g, off + 2, none⟩) rest.length (cl - 1)) rest.length (cr rest)) := Lib.hid (hp2 hc1)
    have HOS : Hid (∀ g' ∈ own (.slice (some ⟨g, off + 2, none⟩) rest.length (cl - 1)), g' ∈ own (.slice (some ⟨g, off, none⟩) σ.lost.length cl)) := Lib.hid fun g' hg' => by rw [(mem_own hg').1, own_some _ _ _ (by omega)]; simp
    have HTp : Hid (Touch [p] w (w.setCell ⟨p, 4, none⟩ (.slice (some ⟨g, off + 2, none⟩) rest.length (cl - 1)))) := Lib.hid ((Touch.refl [p] w).set (.inl (by simp)) _)
    have HPW : Hid (p ∉ own (.slice (some ⟨g, off, none⟩) σ.lost.length cl)) := Lib.hid HQ.out.2.2.2.1.2.1
    go_upto_region 7 with (fail)
    rw [HM.out]
    go_upto_region 8 with (fail)
    obtain ⟨W1, hW1⟩ : ∃ W1, W1 = (w.setCell ⟨p, 4, none⟩ (.slice (some ⟨g, off + 2, none⟩) rest.length (cl - 1))).alloc (.cells #[.int .u64 (x1 : Int), .int .u64 (x2 : Int)] 56) := ⟨_, rfl⟩
    rw [← hW1]
    have HT1 : Hid (Touch [p] w W1) := Lib.hid (by rw [hW1]; exact HTp.out.alloc _)
    have HB1 : Hid (IsBlk W1 p (cells { σ with lost := rest } ab (some ⟨g, off + 2, none⟩) cb (cl - 1) q) 54) := Lib.hid (by rw [hW1]; exact (H1.out.set 4 _).alloc _)
    have HXB : Hid (IsBlk W1 bx [.int .u64 (x1 : Int), .int .u64 (x2 : Int)] 56) := Lib.hid (by rw [hW1, hbx]; have := IsBlk.new (w.setCell ⟨p, 4, none⟩ (.slice (some ⟨g, off + 2, none⟩) rest.length (cl - 1))) [.int .u64 (x1 : Int), .int .u64 (x2 : Int)] 56; simpa [World.setCell] using this)
    have HS1 : Hid (Sl W1 56 2 (.slice (some ⟨g, off + 2, none⟩) rest.length (cl - 1)) rest.length (cr rest)) := Lib.hid (HS0.out.touch HT1.out (fun g' hg' hm => HPW.out (by simp at hm; rw [← hm]; exact HOS.out g' hg')))
    have HPO : Hid (p ∉ own (.slice (some ⟨g, off + 2, none⟩) rest.length (cl - 1))) := Lib.hid fun hm => HPW.out (HOS.out p hm)
    have HXO : Hid (bx ∉ own (.slice (some ⟨g, off + 2, none⟩) rest.length (cl - 1))) := Lib.hid fun hm => by have := HS0.out.lt _ hm; have := HBX.out; omega
    have hxz : W1.heap.size = w.heap.size + 1 := by rw [hW1]; simp [World.setCell]
    have HXZ := Lib.hid hxz
    have x0 := HXB.out.cell 0
    have x1' := HXB.out.cell 1
    have b4 := HB1.out.cell 4
    have g4 := HB1.out.frozen 4
    have bl := HB1.out.lt
    have xl := HXB.out.lt
    simp only [cells, List.getElem?_cons_zero, List.getElem?_cons_succ] at b4 x0 x1'
    rw [← hbx]
    have hnp : ¬ bx = p := by omega
    have hpn : ¬ p = bx := fun e => hnp e.symm
    clear hW1 hxz c4 f4 e1 e2 hbx
    have hwm : IntKind.u64.wrap (m : Int) = (m : Int) := IntWalk.u64_in _ (by omega)
    by_cases hmx : (m : Int) ≤ (x2 : Int) - (x1 : Int)
    · have HPL : Hid (popL (x1, x2) rest m = (x1 + m, x2) :: rest) := Lib.hid (if_pos (by show m ≤ x2 - x1; omega))
      have hws : IntKind.u64.wrap ((x1 : Int) + (m : Int)) = (x1 : Int) + (m : Int) := IntWalk.u64_in _ (by omega)
      have HNB : Hid (Sl (W1.alloc (.cells #[.int .u64 ((x1 : Int) + (m : Int)), .int .u64 (x2 : Int)] 56)).drew 56 2 (.slice (some ⟨W1.heap.size, 0, none⟩) 1 1) 1 (cr [(x1 + m, x2)])) := Lib.hid ((Sl.new W1 (x1 + m, x2)).touch ((Touch.refl [] _).drew) (by simp))
      go_wp2_with fail
      refine wp_region_hold (fun w' => w'.cell? ⟨bx, 0, none⟩ = some (.int .u64 (x1 : Int)) ∧ w'.cell? ⟨bx, 1, none⟩ = some (.int .u64 (x2 : Int))) (fun w' => w'.cell? ⟨p, 4, none⟩ = some (.slice (some ⟨g, off + 2, none⟩) rest.length (cl - 1))) [17] [false, false, false, false, false, false, false, false, false, false, false, false, false, false, false, false, false, false] (by kernel_rfl) (by kernel_rfl) (by exact ⟨x0, x1'⟩) (by exact b4) (fun hS => ?_)
      refine takeG (i := 0) (v := ?_) rfl (by kernel_rfl) (by kernel_rfl) (by kernel_rfl) (by kernel_rfl) (fun _ _ _ h => h) (Or.inl ⟨by rfl, ?_⟩) hS (fun hT => ?_)
      rotate_left
      · intro w hC; (try dsimp only at hC); go_simp; try with_reducible rfl
      clear hS
      have hS := hT
      clear hT
      simp only [Act.put, List.setIfInBounds_toArray, List.set_cons_zero] at hS ⊢
      refine takeG (i := 1) (v := ?_) rfl (by kernel_rfl) (by kernel_rfl) (by kernel_rfl) (by kernel_rfl) (fun _ _ _ h => h) (Or.inl ⟨by rfl, ?_⟩) hS (fun hT => ?_)
      rotate_left
      · intro w hC; (try dsimp only at hC); go_simp; try with_reducible rfl
      clear hS
      have hS := hT
      clear hT
      simp only [Act.put, List.setIfInBounds_toArray, List.set_cons_zero, List.set_cons_succ] at hS ⊢
      refine takeG (i := 2) (v := ?_) rfl (by kernel_rfl) (by kernel_rfl) (by kernel_rfl) (by kernel_rfl) (fun _ _ _ h => h) (Or.inl ⟨by rfl, ?_⟩) hS (fun hT => ?_)
      rotate_left
      · intro w hC; (try dsimp only at hC); go_simp; try with_reducible rfl
      clear hS
      have hS := hT
      clear hT
      simp only [Act.put, List.setIfInBounds_toArray, List.set_cons_zero, List.set_cons_succ] at hS ⊢
      refine takeG (i := 3) (v := ?_) rfl (by kernel_rfl) (by kernel_rfl) (by kernel_rfl) (by kernel_rfl) (fun _ _ _ h => h) (Or.inl ⟨by rfl, ?_⟩) hS (fun hT => ?_)
      rotate_left
      · intro w hC; (try dsimp only at hC); go_simp; try with_reducible rfl
      clear hS
      have hS := hT
      clear hT
      simp only [Act.put, List.setIfInBounds_toArray, List.set_cons_zero, List.set_cons_succ] at hS ⊢
      refine takeG1 (i := 4) (v := ?_) rfl (by kernel_rfl) (by kernel_rfl) (by kernel_rfl) (by kernel_rfl) (by kernel_rfl) (by kernel_rfl) (fun _ _ _ h => h) (Or.inl ⟨by rfl, ?_⟩) hS (fun hT => ?_)
      rotate_left
      · intro w hC; (try dsimp only at hC); go_simp; try with_reducible rfl
      clear hS
      have hS := hT
      clear hT
      simp only [Act.put, List.setIfInBounds_toArray, List.set_cons_zero, List.set_cons_succ] at hS ⊢
      refine takeG (i := 5) (v := ?_) rfl (by kernel_rfl) (by kernel_rfl) (by kernel_rfl) (by kernel_rfl) (fun _ _ _ h => h) (Or.inl ⟨by rfl, ?_⟩) hS (fun hT => ?_)
      rotate_left
      · intro w hC; (try dsimp only at hC); go_simp; try with_reducible rfl
      clear hS
      have hS := hT
      clear hT
      simp only [Act.put, List.setIfInBounds_toArray, List.set_cons_zero, List.set_cons_succ] at hS ⊢
      refine takeG (i := 6) (v := ?_) rfl (by kernel_rfl) (by kernel_rfl) (by kernel_rfl) (by kernel_rfl) (fun _ _ _ h => h) (Or.inl ⟨by rfl, ?_⟩) hS (fun hT => ?_)
      rotate_left
      · intro w hC; (try dsimp only at hC); go_simp; try with_reducible rfl
      clear hS
      have hS := hT
      clear hT
      simp only [Act.put, List.setIfInBounds_toArray, List.set_cons_zero, List.set_cons_succ] at hS ⊢
      refine takeG (i := 7) (v := ?_) rfl (by kernel_rfl) (by kernel_rfl) (by kernel_rfl) (by kernel_rfl) (fun _ _ _ h => h) (Or.inl ⟨by rfl, ?_⟩) hS (fun hT => ?_)
      rotate_left
      · intro w hC; (try dsimp only at hC); go_simp; try with_reducible rfl
      clear hS
      have hS := hT
      clear hT
      simp only [Act.put, List.setIfInBounds_toArray, List.set_cons_zero, List.set_cons_succ] at hS ⊢
      refine takeG (i := 8) (v := ?_) rfl (by kernel_rfl) (by kernel_rfl) (by kernel_rfl) (by kernel_rfl) (fun _ _ _ h => h) (Or.inl ⟨by rfl, ?_⟩) hS (fun hT => ?_)
      rotate_left
      · intro w hC; (try dsimp only at hC); go_simp; try with_reducible rfl
      clear hS
      have hS := hT
      clear hT
      simp only [Act.put, List.setIfInBounds_toArray, List.set_cons_zero, List.set_cons_succ] at hS ⊢
      refine takeG (i := 9) (v := ?_) rfl (by kernel_rfl) (by kernel_rfl) (by kernel_rfl) (by kernel_rfl) (fun _ _ _ h => h) (Or.inl ⟨by rfl, ?_⟩) hS (fun hT => ?_)
      rotate_left
      · intro w hC; (try dsimp only at hC); go_simp; try with_reducible rfl
      clear hS
      have hS := hT
      clear hT
      simp only [Act.put, List.setIfInBounds_toArray, List.set_cons_zero, List.set_cons_succ] at hS ⊢
      refine takeG (i := 10) (v := ?_) rfl (by kernel_rfl) (by kernel_rfl) (by kernel_rfl) (by kernel_rfl) (fun _ _ _ h => h) (Or.inl ⟨by rfl, ?_⟩) hS (fun hT => ?_)
      rotate_left
      · intro w hC; (try dsimp only at hC); go_simp; try with_reducible rfl
      clear hS
      have hS := hT
      clear hT
      simp only [Act.put, List.setIfInBounds_toArray, List.set_cons_zero, List.set_cons_succ] at hS ⊢
      refine takeG (i := 11) (v := ?_) rfl (by kernel_rfl) (by kernel_rfl) (by kernel_rfl) (by kernel_rfl) (fun _ _ _ h => h) (Or.inl ⟨by rfl, ?_⟩) hS (fun hT => ?_)
      rotate_left
      · intro w hC; (try dsimp only at hC); go_simp; try with_reducible rfl
      clear hS
      have hS := hT
      clear hT
      simp only [Act.put, List.setIfInBounds_toArray, List.set_cons_zero, List.set_cons_succ] at hS ⊢
      refine takeG (i := 12) (v := ?_) rfl (by kernel_rfl) (by kernel_rfl) (by kernel_rfl) (by kernel_rfl) (fun _ _ _ h => h) (Or.inl ⟨by rfl, ?_⟩) hS (fun hT => ?_)
      rotate_left
      · intro w hC; (try dsimp only at hC); go_simp; try with_reducible rfl
      clear hS
      have hS := hT
      clear hT
      simp only [Act.put, List.setIfInBounds_toArray, List.set_cons_zero, List.set_cons_succ] at hS ⊢
      refine oneG (i := 13) (by kernel_rfl) rfl (fun K hK => ?_)
      go_simp
      refine hK.out _ _ ⟨?_, fun hu => ?_⟩ (fun hT => ?_)
      · go_keep
      · go_keep
      clear hS
      have hS := hT
      clear hT
      simp only [List.setIfInBounds_toArray, List.set_cons_zero, List.set_cons_succ] at hS ⊢
      clear hK K
      refine oneG (i := 14) (by kernel_rfl) rfl (fun K hK => ?_)
      (go_simp; go_at_call 29; refine (insert_any (W1.alloc (.cells #[.int .u64 ((x1 : Int) + (m : Int)), .int .u64 (x2 : Int)] 56)).drew (.slice (some ⟨g, off + 2, none⟩) rest.length (cl - 1)) rest.length 0 W1.heap.size (cr rest) (cr [(x1 + m, x2)]) (HS1.out.touch (ks := []) (((Touch.refl _ _).alloc _).drew) (by simp)) HNB.out (Nat.zero_le _) (fun hm => by have := HS1.out.lt _ hm; omega) (by omega) (cr_one _) (cr_one _)).mono ?_; rintro e w5 ⟨v5, rfl, k1, k2, k3⟩; obtain ⟨a5, c5, hv5, _⟩ := k1.form; subst hv5; have K1 := Lib.hid k1; have K2 : Hid (Touch (own (.slice (some ⟨g, off + 2, none⟩) rest.length (cl - 1))) W1 w5) := Lib.hid ((((Touch.refl [] W1).alloc (.cells #[.int .u64 ((x1 : Int) + (m : Int)), .int .u64 (x2 : Int)] 56)).drew.mono (by simp)).trans k2 (fun g hg => .inl hg)); have K3 : Hid (∀ g' ∈ own (.slice a5 (rest.length + 1) c5), g' ∈ own (.slice (some ⟨g, off + 2, none⟩) rest.length (cl - 1)) ∨ W1.heap.size ≤ g') := Lib.hid (fun g' hg' => (k3 g' hg').elim .inl (fun h => .inr (by simp at h; omega))); have HX5 := Lib.hid (HXB.out.touch K2.out HXO.out); have x50 := HX5.out.cell 0; have x51 := HX5.out.cell 1; have HB5 := Lib.hid (HB1.out.touch K2.out HPO.out); have b54 := HB5.out.cell 4; have f54 := HB5.out.frozen 4; have bl5 := HB5.out.lt; have xl5 := HX5.out.lt; simp only [cells, List.getElem?_cons_zero, List.getElem?_cons_succ] at b54 x50 x51; clear k1 k2 k3; go_wp2_with fail)
      refine hK.out _ _ ⟨?_, fun hu => ?_⟩ (fun hT => ?_)
      · exact ⟨x50, x51⟩
      · exact b54
      clear hS
      have hS := hT
      clear hT
      simp only [List.setIfInBounds_toArray, List.set_cons_zero, List.set_cons_succ] at hS ⊢
      clear hK K
      refine takeG (i := 15) (v := ?_) rfl (by kernel_rfl) (by kernel_rfl) (by kernel_rfl) (by kernel_rfl) (fun _ _ _ h => h) (Or.inl ⟨by rfl, ?_⟩) hS (fun hT => ?_)
      rotate_left
      · intro w hC; (try dsimp only at hC); go_simp; try with_reducible rfl
      clear hS
      have hS := hT
      clear hT
      simp only [Act.put, List.setIfInBounds_toArray, List.set_cons_zero, List.set_cons_succ] at hS ⊢
      refine takeG (i := 16) (v := ?_) rfl (by kernel_rfl) (by kernel_rfl) (by kernel_rfl) (by kernel_rfl) (fun _ _ _ h => h) (Or.inl ⟨by rfl, ?_⟩) hS (fun hT => ?_)
      rotate_left
      · intro w hC; (try dsimp only at hC); go_simp; try with_reducible rfl
      clear hS
      have hS := hT
      clear hT
      simp only [Act.put, List.setIfInBounds_toArray, List.set_cons_zero, List.set_cons_succ] at hS ⊢
      refine oneG (i := 17) (by kernel_rfl) rfl (fun K hK => ?_)
      go_simp
      refine hK.out _ _ ⟨?_, fun hu => ?_⟩ (fun hT => ?_)
      · go_keep
      · exact absurd hu (by decide)
      clear hS
      have hS := hT
      clear hT
      simp only [List.setIfInBounds_toArray, List.set_cons_zero, List.set_cons_succ] at hS ⊢
      clear hK K
      refine wpAnyG_done (by kernel_rfl) ?_ _
      clear hS
      obtain ⟨h2, h3, h4, d1, d2, d3⟩ := HQ.out
      have hcr5 : (cr rest).take (0 * 2) ++ cr [(x1 + m, x2)] ++ (cr rest).drop (0 * 2) = cr (popL (x1, x2) rest m) := by rw [HPL.out]; simp [cr]
      have hle5 : (popL (x1, x2) rest m).length = rest.length + 1 := by rw [HPL.out]; rfl
      have hst : Step W1 p (p :: (own (.slice ab σ.b.length cb) ++ own (.slice (some ⟨g, off + 2, none⟩) rest.length (cl - 1)) ++ Fq)) { σ with lost := popL (x1, x2) rest m } (w5.setCell ⟨p, 4, none⟩ (.slice a5 (popL (x1, x2) rest m).length c5)) := by
        refine IsSnd.lost' (σ := { σ with lost := rest }) HB1.out (h2.touch HT1.out (fun g' hg' hm => d1.1 (by simp at hm; rw [← hm]; exact hg'))) (h4.touch HT1.out (fun g' hg' hm => d1.2.2 (by simp at hm; rw [← hm]; exact hg'))) ⟨d1.1, HPO.out, d1.2.2⟩ (fun g' hg' => ⟨fun hm => (d2 g' hg').1 (HOS.out g' hm), (d2 g' hg').2⟩) (fun g' hg' => d3 g' (HOS.out g' hg')) K2.out ?_ ?_ HO.out
        · rw [hle5, ← hcr5]; exact K1.out
        · rw [hle5]; exact K3.out
      rw [hle5] at hst
      have hst2 : Step w p F { σ with lost := popL (x1, x2) rest m } (w5.setCell ⟨p, 4, none⟩ (.slice a5 (rest.length + 1) c5)) := by
        rw [HF.out]
        refine Step.trans (HT1.out.mono (by simp)) (fun g' hg' => .inl ?_) hst
        simp only [List.mem_cons, List.mem_append] at hg' ⊢
        rcases hg' with hg' | (hg' | hg') | hg'
        · exact .inl hg'
        · exact .inr (.inl (.inl hg'))
        · exact .inr (.inl (.inr (HOS.out g' hg')))
        · exact .inr (.inr hg')
      have HST := Lib.hid hst2
      have x60 := (HX5.out.set_other (m := p) (j := 4) (s := none) hpn (.slice a5 (rest.length + 1) c5)).cell 0
      have x6l := (HX5.out.set_other (m := p) (j := 4) (s := none) hpn (.slice a5 (rest.length + 1) c5)).lt
      simp only [List.getElem?_cons_zero] at x60
      obtain ⟨W6, hW6⟩ : ∃ W6, W6 = w5.setCell ⟨p, 4, none⟩ (.slice a5 (rest.length + 1) c5) := ⟨_, rfl⟩
      rw [← hW6] at HST x60 x6l ⊢
      clear hst hst2 h2 h3 h4 d1 d2 d3 hW6 hcr5 hle5 x0 x1' b4 x50 x51 b54
      obtain ⟨F6, g1, g2, g3⟩ := HST.out
      have G1 := Lib.hid g1
      have G2 := Lib.hid g2
      have G3 := Lib.hid g3
      clear g1 g2 g3
      go_wp2_with fail
      refine (chunk_any _ p F6 { σ with lost := popL (x1, x2) rest m } x1 m G1.out (by show x1 + m ≤ σ.b.length; omega)).mono ?_
      rintro e w7 ⟨v7, rfl, k1, k2, k3⟩
      obtain ⟨va, vc, hve⟩ := k1.form
      subst hve
      have K71 := Lib.hid k1
      have K72 := Lib.hid (StepV.trans G2.out G3.out k2)
      have K73 := Lib.hid (fun g' hg' => Nat.le_trans G2.out.size (k3 g' hg'))
      clear k1 k2 k3
      go_wp2_with fail
      refine bodyPost_ret (v := .tuple #[.int .u64 (x1 : Int), .slice va m vc, .bool (chunkF { σ with lost := popL (x1, x2) rest m } x1 m), .bool true]) (by simp [results, Try.results11, go_sem]) rfl ?_
      refine ⟨.slice va m vc, rfl, ?_, K72.out, K73.out⟩
      show Rd w7 1 (.slice va m vc) (bytesAt σ x1 m).length (bs (bytesAt σ x1 m))
      rw [HBL.out]
      exact K71.out
    · have hmm : m = x2 - x1 + 1 := by omega
      have HPL : Hid (popL (x1, x2) rest m = rest) := Lib.hid (if_neg (by show ¬ m ≤ x2 - x1; omega))
      have hst2 : Step w p F { σ with lost := rest } W1 := by
        obtain ⟨h2, h3, h4, d1, d2, d3⟩ := HQ.out
        rw [HF.out]
        have HO2 := HO.out
        rw [HPL.out] at HO2
        refine ⟨p :: (own (.slice ab σ.b.length cb) ++ own (.slice (some ⟨g, off + 2, none⟩) rest.length (cl - 1)) ++ Fq), ⟨ab, some ⟨g, off + 2, none⟩, cb, cl - 1, q, Fq, HB1.out, ?_, HS1.out, ?_, rfl, ⟨d1.1, HPO.out, d1.2.2⟩, fun g' hg' => ⟨fun hm => (d2 g' hg').1 (HOS.out g' hm), (d2 g' hg').2⟩, fun g' hg' => d3 g' (HOS.out g' hg'), HO2⟩, HT1.out.mono (by simp), fun g' hg' => .inl ?_⟩
        · exact h2.touch HT1.out (fun g' hg' hm => d1.1 (by simp at hm; rw [← hm]; exact hg'))
        · exact h4.touch HT1.out (fun g' hg' hm => d1.2.2 (by simp at hm; rw [← hm]; exact hg'))
        · simp only [List.mem_cons, List.mem_append] at hg' ⊢
          rcases hg' with hg' | (hg' | hg') | hg'
          · exact .inl hg'
          · exact .inr (.inl (.inl hg'))
          · exact .inr (.inl (.inr (HOS.out g' hg')))
          · exact .inr (.inr hg')
      have HST := Lib.hid hst2
      clear hst2
      rw [← HPL.out] at HST
      obtain ⟨F6, g1, g2, g3⟩ := HST.out
      have G1 := Lib.hid g1
      have G2 := Lib.hid g2
      have G3 := Lib.hid g3
      clear g1 g2 g3 hmm
      go_wp2_with fail
      refine (chunk_any _ p F6 { σ with lost := popL (x1, x2) rest m } x1 m G1.out (by show x1 + m ≤ σ.b.length; omega)).mono ?_
      rintro e w7 ⟨v7, rfl, k1, k2, k3⟩
      obtain ⟨va, vc, hve⟩ := k1.form
      subst hve
      have K71 := Lib.hid k1
      have K72 := Lib.hid (StepV.trans G2.out G3.out k2)
      have K73 := Lib.hid (fun g' hg' => Nat.le_trans G2.out.size (k3 g' hg'))
      clear k1 k2 k3
      go_wp2_with fail
      refine bodyPost_ret (v := .tuple #[.int .u64 (x1 : Int), .slice va m vc, .bool (chunkF { σ with lost := popL (x1, x2) rest m } x1 m), .bool true]) (by simp [results, Try.results11, go_sem]) rfl ?_
      refine ⟨.slice va m vc, rfl, ?_, K72.out, K73.out⟩
      show Rd w7 1 (.slice va m vc) (bytesAt σ x1 m).length (bs (bytesAt σ x1 m))
      rw [HBL.out]
      exact K71.out
end Go.Proofs.Ytmidlielcioinaa
