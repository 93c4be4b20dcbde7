/- The contract of Flight. Conditions: the ledger is in order. -/
import Derived.Test.YthnokfchebmjiaaE
namespace Go.Proofs.Ythnokfchebmjiaa
open Go.RowKit Go.Maps Go.WideMaps Go.ChangeShapes

/-- The bytes of those that are no longer to come. -/
def partS (l : List Pkt) (left : Lit → Bool) : Nat := (l.map fun s => if s.eager && !left (.int .u64 (s.pn : Int)) then s.size else 0).sum
def flight (l : List Pkt) : Nat := (l.map fun s => if s.eager then s.size else 0).sum
theorem partS_start {l : List Pkt} {left : Lit → Bool} (h : ∀ s ∈ l, left (.int .u64 (s.pn : Int)) = true) : partS l left = 0 := by
  unfold partS
  induction l with
  | nil => rfl
  | cons s l ih => rw [List.map_cons, List.sum_cons, ih (fun t ht => h t (by simp [ht])), h s (by simp)]; simp
theorem partS_end {l : List Pkt} {left : Lit → Bool} (h : ∀ kl, left kl = false) : partS l left = flight l := by
  unfold partS flight
  congr 1
  exact List.map_congr_left (fun s _ => by rw [h]; simp)
theorem partS_same {l : List Pkt} {left : Lit → Bool} {k : Nat} (h : ∀ s ∈ l, s.pn ≠ k) : partS l (fun z => left z && !z.sameKey (.int .u64 (k : Int))) = partS l left := by
  unfold partS
  congr 1
  refine List.map_congr_left (fun s hs => ?_)
  have hne : ((s.pn : Int) == (k : Int)) = false := by have := h s hs; simp; omega
  have : (Lit.int .u64 (s.pn : Int)).sameKey (.int .u64 (k : Int)) = false := by simp [Lit.sameKey]; have := h s hs; omega
  simp only [this]
  simp
theorem partS_step {left : Lit → Bool} {c : Pkt} : ∀ {l : List Pkt}, l.Pairwise (fun s t => s.pn < t.pn) → c ∈ l → left (.int .u64 (c.pn : Int)) = true →
    partS l (fun z => left z && !z.sameKey (.int .u64 (c.pn : Int))) = partS l left + (if c.eager then c.size else 0)
  | [], _, h, _ => by cases h
  | s :: l, hp, hc, hl => by
    obtain ⟨h1, h2⟩ := List.pairwise_cons.1 hp
    have e : ∀ lf, partS (s :: l) lf = (if s.eager && !lf (.int .u64 (s.pn : Int)) then s.size else 0) + partS l lf := fun lf => by unfold partS; rw [List.map_cons, List.sum_cons]
    rw [e, e]
    rcases List.mem_cons.1 hc with rfl | hc
    · rw [partS_same (fun t ht => by have := h1 t ht; omega), hl]
      have : (Lit.int .u64 (c.pn : Int)).sameKey (.int .u64 (c.pn : Int)) = true := by simp [Lit.sameKey]
      simp only [this]
      simp
      omega
    · rw [partS_step h2 hc hl]
      have hlt := h1 c hc
      have : (Lit.int .u64 (s.pn : Int)).sameKey (.int .u64 (c.pn : Int)) = false := by simp [Lit.sameKey]; omega
      simp only [this]
      simp
      omega
theorem partS_le {left : Lit → Bool} : ∀ (l : List Pkt), (∀ s ∈ l, s.size ≤ 1099511627776) → partS l left ≤ l.length * 1099511627776
  | [], _ => by simp [partS]
  | s :: l, h => by
    have ih := partS_le (left := left) l (fun t ht => h t (by simp [ht]))
    have hs := h s (by simp)
    have e : partS (s :: l) left = (if s.eager && !left (.int .u64 (s.pn : Int)) then s.size else 0) + partS l left := by unfold partS; rw [List.map_cons, List.sum_cons]
    rw [e, List.length_cons, Nat.add_mul]
    split <;> omega
theorem fnd_mem {l : List Pkt} {x : Nat} {s : Pkt} (h : fnd l x = some s) : s ∈ l ∧ s.pn = x := by
  unfold fnd at h
  exact ⟨List.mem_of_find?_eq_some h, by simpa using List.find?_some h⟩
theorem fnd_some {l : List Pkt} (hp : l.Pairwise (fun s t => s.pn < t.pn)) {s : Pkt} (hs : s ∈ l) : fnd l s.pn = some s := by
  unfold fnd
  induction l with
  | nil => cases hs
  | cons t l ih =>
    obtain ⟨h1, h2⟩ := List.pairwise_cons.1 hp
    rw [List.find?_cons]
    rcases List.mem_cons.1 hs with rfl | hs
    · simp
    · have := h1 s hs
      have e : (t.pn == s.pn) = false := by simp; omega
      rw [e]
      exact ih h2 hs

set_option maxHeartbeats 1000000 in
theorem flight_any (w : World) (p : Nat) (F : List Nat) (σ : Ldg) (h : IsL w p F σ) : Calls Try.prog 17 #[.pointer (some ⟨p, 0, none⟩)] w fun e w' => e = .returned (.int .i64 (flight σ.opens : Int)) ∧ Touch [] w w' := by
  obtain ⟨mb, ao, co, q, Fq, m, h1, h2, h3, h4, _, _, _, _, hok, hm⟩ := h
  have c0 := h1.cell 0
  have hl := h1.lt
  simp only [lcells, List.getElem?_cons_zero] at c0
  obtain ⟨D, hown, hmap, hD⟩ := h2
  have HD := Lib.hid hD
  have HOK := Lib.hid hok
  have HBD : Hid (∀ left, partS σ.opens left ≤ 109951162777600000) := Lib.hid (fun left => by
    have := partS_le (left := left) σ.opens (fun s hs => (hok.each s hs).2.2)
    have h1 := hok.nopen
    have h2 := hok.tot
    omega)
  have HST : Hid (partS σ.opens (Maps.has D) = 0) := Lib.hid (partS_start fun s hs => by
    have hlt := hok.small hs
    rw [(hD s.pn (by omega)).1, fnd_some hok.rise hs]
    rfl)
  clear h1 h3 h4 hok hmap hD hm
  go_enter Try.func17, Try.ntmps17
  go_wp2_with (first
    | (at_range; refine wpList_range_own _ rfl _ 60 rfl 28 30 law28 und60 _ mb m _ rfl hown ?_; intro w0 hrg0 hg0 hs0)
    | go_in)
  go_frame
  have HG0 : Hid (Touch [] w w0) := Lib.hid (Touch.of_grown hg0)
  go_loopw [3] (fun s3 wr => ∃ (left : Lit → Bool) (cnt : Nat), wr.ranges Try.prog 28 pktR mb w.heap.size m D left cnt ∧ s3 = .int .i64 (partS σ.opens left : Int) ∧ Hid (Touch [] w wr))
    (fun _ wr => wr.rangeLeft mb w.heap.size)
  case atStart => exact ⟨_, _, hrg0, by rw [HST.out]; rfl, HG0⟩
  case round =>
    obtain ⟨left, cnt, hrg, rfl, HG⟩ := hrel
    go_wp2_with (first
      | (at_next; refine wpList_next_ranges _ rfl _ rfl 28 law28 pktR (Value.int .u64) pktV (fun key kl hkey => by obtain ⟨x, rfl, _⟩ := Maps.keyOf_int_inv und28 hkey; exact ⟨x, rfl⟩) (fun v y hv => by obtain ⟨c, rfl, _⟩ := pktR_inv hv; exact ⟨c, rfl⟩) mb w.heap.size m _ _ _ rfl hrg ?_ ?_)
      | go_in)
    · -- nothing is left
      intro _ hl0
      have HE : Hid (partS σ.opens left = flight σ.opens) := Lib.hid (partS_end hl0)
      clear hl0
      go_wp2_with fail
      go_ret
      exact ⟨by rw [← HE.out]; rfl, HG.out⟩
    · intro x c kl y ys w1 cnt1 hkey hlx hy hat hrg1 hlt hg1 hs1 hen
      have HG1 : Hid (Touch [] w w1) := Lib.hid (HG.out.trans (Touch.of_grown hg1) (by simp))
      obtain ⟨x', e1, rfl, hwf⟩ := Maps.keyOf_int_inv und28 hkey
      cases e1
      have hxb := Go.bounds_u64 hwf
      obtain ⟨x, rfl⟩ := Int.eq_ofNat_of_zero_le hxb.1
      obtain ⟨hc1, hc2⟩ : c ∈ σ.opens ∧ c.pn = x := by
        have hh := Maps.has_true_of_atKey hat
        have hd := HD.out x (by omega)
        rw [hd.1] at hh
        cases hf : fnd σ.opens x with
        | none => rw [hf] at hh; cases hh
        | some s =>
          have h3 := hd.2 s hf
          rw [pktR_mk] at hy
          have h4 := (h3 (.agg [])).symm.trans (hat (.agg []))
          obtain rfl : c = s := pktD_inj (((Prod.mk.inj (Option.some.inj hy)).1).trans h4.symm)
          exact fnd_mem hf
      subst hc2
      have HSt := Lib.hid (partS_step HOK.out.rise hc1 hlx)
      have HB2 := HBD.out (fun z => left z && !z.sameKey (.int .u64 (c.pn : Int)))
      have hsz := (HOK.out.each c hc1).2.2
      obtain ⟨T, hT⟩ : ∃ T, T = partS σ.opens left := ⟨_, rfl⟩
      rw [← hT] at HSt ⊢
      have HRL : Hid (w1.rangeLeft mb w.heap.size < wr.rangeLeft mb w.heap.size) := Lib.hid (by rw [hrg1.left_eq, hrg.left_eq]; exact hlt)
      have HR1 := Lib.hid hrg1
      have HT1 := Lib.hid hT
      clear hT hkey hwf hxb hlx hy hat hrg hrg1 hlt hg1 hs1 hc1
      have RA := fun o => HR1.out.alloc o
      unfold pktV at hen
      cases he : c.eager with
      | true =>
        rw [HSt.out, he] at HB2
        simp only [if_true] at HB2
        rw [he] at hen
        have HE := Lib.hid he
        clear he
        go_wp2_with fail
        go_roundw
        case rel => exact ⟨_, cnt1, RA _, by rw [HSt.out, HE.out, if_pos rfl]; go_num, Lib.hid (HG1.out.alloc _)⟩
        case measure => rw [(RA _).left_eq, ← HR1.out.left_eq]; exact HRL.out
      | false =>
        rw [he] at hen
        have HE := Lib.hid he
        clear he HB2
        go_wp2_with fail
        go_roundw
        case rel => exact ⟨_, cnt1, RA _, by rw [HSt.out, HE.out, if_neg (by decide), Nat.add_zero], Lib.hid (HG1.out.alloc _)⟩
        case measure => rw [(RA _).left_eq, ← HR1.out.left_eq]; exact HRL.out
end Go.Proofs.Ythnokfchebmjiaa
