/- The plain law of LedgerOnce: each packet is open or over. Conditions: none of their own. -/
import Derived.Test.YthnokfchebmjiaaAc
namespace Go.Proofs.Ythnokfchebmjiaa
open Go.RowKit

/-- Just the packets below pn were sent; those that f calls 1 are open, or among those that were just told. -/
structure OMid (pn : Nat) (σ : Ldg) (f : Nat → Option Int) (ov : List Nat) : Prop where
  la : σ.last = (pn : Int) - 1
  mem : ∀ x, inR x σ.sent ↔ x < pn
  one : ∀ x, (f x).getD ki.z = 1 ↔ x ∈ pns σ.opens ∨ x ∈ ov
  nd : ov.Nodup
  dj : ∀ x ∈ ov, x ∉ pns σ.opens
  eag : ∀ s ∈ σ.opens, s.eager = true ∧ s.size = 1
  tot : σ.tot = pn
  ln : ov.length + σ.opens.length ≤ pn
  sm : ∀ x ∈ ov, x < pn
theorem mem_pns {l : List Pkt} {x : Nat} : x ∈ pns l ↔ ∃ s ∈ l, s.pn = x := by unfold pns; exact List.mem_map
theorem pns_pair {l : List Pkt} (h : l.Pairwise (fun s t => s.pn < t.pn)) : (pns l).Pairwise (· < ·) := by
  unfold pns
  exact List.pairwise_map.2 h
theorem pns_nodup {l : List Pkt} (h : l.Pairwise (fun s t => s.pn < t.pn)) : (pns l).Nodup := (pns_pair h).imp (fun h => by omega)
theorem pn_inj : ∀ {l : List Pkt}, l.Pairwise (fun s t => s.pn < t.pn) → ∀ {s t : Pkt}, s ∈ l → t ∈ l → s.pn = t.pn → s = t
  | [], _, _, _, h, _, _ => by cases h
  | x :: l, hp, s, t, hs, ht, he => by
    obtain ⟨h1, h2⟩ := List.pairwise_cons.1 hp
    rcases List.mem_cons.1 hs with hs1 | hs1
    · rcases List.mem_cons.1 ht with ht1 | ht1
      · rw [hs1, ht1]
      · have := h1 t ht1; rw [← hs1] at this; omega
    · rcases List.mem_cons.1 ht with ht1 | ht1
      · have := h1 s hs1; rw [← ht1] at this; omega
      · exact pn_inj h2 hs1 ht1 he
theorem part_dj {l : List Pkt} (h : l.Pairwise (fun s t => s.pn < t.pn)) (d : Pkt → Bool) : ∀ x ∈ pns (l.filter d), x ∉ pns (l.filter fun s => !d s) := by
  intro x hx hm
  obtain ⟨s, hs, rfl⟩ := mem_pns.1 hx
  obtain ⟨t, ht, he⟩ := mem_pns.1 hm
  obtain ⟨h1, h2⟩ := List.mem_filter.1 hs
  obtain ⟨h3, h4⟩ := List.mem_filter.1 ht
  have := pn_inj h h3 h1 he
  subst this
  simp [h2] at h4
theorem part_mem (l : List Pkt) (d : Pkt → Bool) (x : Nat) : x ∈ pns l ↔ x ∈ pns (l.filter fun s => !d s) ∨ x ∈ pns (l.filter d) := by
  constructor
  · intro h
    obtain ⟨s, hs, rfl⟩ := mem_pns.1 h
    by_cases hd : d s = true
    · exact .inr (mem_pns.2 ⟨s, List.mem_filter.2 ⟨hs, hd⟩, rfl⟩)
    · exact .inl (mem_pns.2 ⟨s, List.mem_filter.2 ⟨hs, by simp [hd]⟩, rfl⟩)
  · rintro (h | h)
    · obtain ⟨s, hs, rfl⟩ := mem_pns.1 h
      exact mem_pns.2 ⟨s, (List.mem_filter.1 hs).1, rfl⟩
    · obtain ⟨s, hs, rfl⟩ := mem_pns.1 h
      exact mem_pns.2 ⟨s, (List.mem_filter.1 hs).1, rfl⟩
theorem part_len (l : List Pkt) (d : Pkt → Bool) : (l.filter d).length + (l.filter fun s => !d s).length = l.length := by
  induction l with
  | nil => rfl
  | cons x l ih =>
    rw [List.filter_cons, List.filter_cons]
    cases d x <;> simp <;> omega
theorem ackS_same (σ : Ldg) (L : List Rng) (now d : Nat) : (ackS σ L now d).opens = (leftA σ L).opens ∧ (ackS σ L now d).sent = σ.sent ∧ (ackS σ L now d).tot = σ.tot ∧ (ackS σ L now d).last = σ.last := by
  unfold ackS
  split
  · exact ⟨rfl, rfl, rfl, rfl⟩
  · next s _ =>
    split
    · split
      · obtain ⟨h1, h2, h3, h4, _⟩ := sampleS_opens (leftA σ L) (now - min s.when_ now) d
        exact ⟨h1, h2, h3, h4⟩
      · exact ⟨rfl, rfl, rfl, rfl⟩
    · exact ⟨rfl, rfl, rfl, rfl⟩
section
variable {pn : Nat} {σ : Ldg} {f : Nat → Option Int} {ov : List Nat}
theorem OMid.zero : OMid 0 led0 (fun _ => none) [] := ⟨rfl, fun x => by simp [led0, inR], fun x => by simp [led0, pns, ki], .nil, by simp, by simp [led0], rfl, by simp [led0], by simp⟩
theorem OMid.small (h : OMid pn σ f ov) (hok : σ.Ok) {x : Nat} (hx : x ∈ pns σ.opens) : x < pn := by
  obtain ⟨s, hs, rfl⟩ := mem_pns.1 hx
  have := (hok.each s hs).1
  have := h.la
  omega
theorem OMid.fine (h : OMid pn σ f ov) (hp : pn ≤ 100) (now : Nat) : sendBad σ ⟨pn, now, 1, true⟩ = false := by
  have := h.la
  unfold sendBad mx
  simp
  omega
theorem OMid.send (h : OMid pn σ f []) (hok : σ.Ok) (hp : pn ≤ 100) (now : Nat) : OMid (pn + 1) (sentS σ ⟨pn, now, 1, true⟩) (updN f pn (some 1)) [] := by
  refine ⟨by show (pn : Int) = _; omega, fun x => ?_, fun x => ?_, .nil, by simp, fun s hs => ?_, by show σ.tot + 1 = _; rw [h.tot], ?_, by simp⟩
  · show inR x (spOp σ.sent 0 pn pn) ↔ _
    rw [spOp_mem hok.sent pn pn x (by unfold mx; omega), h.mem]
    omega
  · show (updN f pn (some 1) x).getD ki.z = 1 ↔ x ∈ pns (σ.opens ++ [⟨pn, now, 1, true⟩]) ∨ _
    have e : pns (σ.opens ++ [⟨pn, now, 1, true⟩]) = pns σ.opens ++ [pn] := by simp [pns]
    rw [e]
    unfold updN
    by_cases hx : x = pn
    · simp [hx]
    · rw [if_neg hx, h.one]
      simp [hx]
  · rcases List.mem_append.1 (show s ∈ σ.opens ++ [⟨pn, now, 1, true⟩] from hs) with g | g
    · exact h.eag s g
    · simp at g
      subst g
      exact ⟨rfl, rfl⟩
  · show ([] : List Nat).length + (σ.opens ++ [_]).length ≤ _
    have := h.ln
    simp at this ⊢
    omega
theorem OMid.tick (h : OMid pn σ f []) (hok : σ.Ok) (now : Nat) : OMid pn (lostS σ now) f (pns (lostL σ now)) := by
  refine ⟨h.la, h.mem, fun x => ?_, pns_nodup (hok.rise.filter _), part_dj hok.rise _, fun s hs => h.eag s (List.mem_filter.1 hs).1, h.tot, ?_, fun x hx => h.small hok ((part_mem σ.opens (fun s => lostB σ (waitL σ) now s) x).2 (.inr hx))⟩
  · rw [h.one]
    have := part_mem σ.opens (fun s => lostB σ (waitL σ) now s) x
    simp only [List.not_mem_nil, or_false]
    exact this
  · have := part_len σ.opens (fun s => lostB σ (waitL σ) now s)
    have h2 := h.ln
    simp only [List.length_nil, Nat.zero_add] at h2
    rw [pns_len]
    show (σ.opens.filter _).length + (σ.opens.filter _).length ≤ _
    omega
theorem OMid.ack (h : OMid pn σ f []) (hok : σ.Ok) (L : List Rng) (now d : Nat) : OMid pn (lostS (ackS σ L now d) now) f (pns (goneA σ L) ++ pns (lostL (ackS σ L now d) now)) := by
  obtain ⟨e1, e2, e3, e4⟩ := ackS_same σ L now d
  have hr1 : (ackS σ L now d).opens.Pairwise (fun s t => s.pn < t.pn) := by rw [e1]; exact hok.rise.filter _
  have hm1 := part_mem σ.opens (fun s => hasB s.pn L)
  have hd1 := part_dj hok.rise (fun s => hasB s.pn L)
  have hl1 := part_len σ.opens (fun s => hasB s.pn L)
  have hsub : ∀ x, x ∈ pns (ackS σ L now d).opens → x ∈ pns (σ.opens.filter fun s => !hasB s.pn L) := fun x hx => by rw [e1] at hx; exact hx
  have hm2 := part_mem (ackS σ L now d).opens (fun s => lostB (ackS σ L now d) (waitL (ackS σ L now d)) now s)
  have hd2 := part_dj hr1 (fun s => lostB (ackS σ L now d) (waitL (ackS σ L now d)) now s)
  have hl2 := part_len (ackS σ L now d).opens (fun s => lostB (ackS σ L now d) (waitL (ackS σ L now d)) now s)
  refine ⟨by show (ackS σ L now d).last = _; rw [e4, h.la], fun x => by show inR x (ackS σ L now d).sent ↔ _; rw [e2]; exact h.mem x, fun x => ?_, ?_, fun x hx hm => ?_, fun s hs => ?_, by show (ackS σ L now d).tot = _; rw [e3, h.tot], ?_, fun x hx => h.small hok ((hm1 x).2 ((List.mem_append.1 hx).elim .inr (fun h => .inl (hsub x ((hm2 x).2 (.inr h))))))⟩
  · rw [h.one, List.mem_append]
    simp only [List.not_mem_nil, or_false]
    rw [hm1 x]
    show x ∈ pns (leftA σ L).opens ∨ _ ↔ _
    rw [← e1, hm2 x]
    constructor
    · rintro ((h | h) | h)
      · exact .inl h
      · exact .inr (.inr h)
      · exact .inr (.inl h)
    · rintro (h | h | h)
      · exact .inl (.inl h)
      · exact .inr h
      · exact .inl (.inr h)
  · refine List.nodup_append.2 ⟨pns_nodup (hok.rise.filter _), pns_nodup (hr1.filter _), fun x hx y hy he => ?_⟩
    subst he
    exact hd1 x hx (hsub x ((hm2 x).2 (.inr hy)))
  · rcases List.mem_append.1 hx with hx | hx
    · exact hd1 x hx (hsub x ((hm2 x).2 (.inl hm)))
    · exact hd2 x hx hm
  · have h1 := (List.mem_filter.1 (show s ∈ (ackS σ L now d).opens.filter _ from hs)).1
    rw [e1] at h1
    exact h.eag s (List.mem_filter.1 h1).1
  · have h2 := h.ln
    simp only [List.length_nil, Nat.zero_add] at h2
    rw [List.length_append, pns_len, pns_len]
    show (σ.opens.filter _).length + ((ackS σ L now d).opens.filter _).length + ((ackS σ L now d).opens.filter _).length ≤ _
    rw [e1] at hl2
    have : (leftA σ L).opens.length = (σ.opens.filter fun s => !hasB s.pn L).length := rfl
    rw [e1]
    omega
theorem OMid.good (h : OMid pn σ f ov) (hok : σ.Ok) (L : List Rng) (hL : ∀ x ∈ L, x.1 ≤ x.2 ∧ x.2 < pn) : ackBad σ L = false := by
  unfold ackBad
  refine List.any_eq_false.2 (fun x hx => ?_)
  obtain ⟨h1, h2⟩ := hL x hx
  have : whB x.1 x.2 σ.sent = true := (wh_iff hok.sent h1).2 (fun z _ hz => (h.mem z).2 (by omega))
  rw [this]
  simp
  omega
/-- The map when the numbers ov have been struck. -/
def fmark (f : Nat → Option Int) (ov : List Nat) : Nat → Option Int := fun x => if x ∈ ov then some 2 else f x
theorem fmark_nil (f : Nat → Option Int) : fmark f [] = f := by funext x; simp [fmark]
theorem fmark_put (f : Nat → Option Int) (ov : List Nat) (j x : Nat) (hx : ov[j]? = some x) : updN (fmark f (ov.take j)) x (some 2) = fmark f (ov.take (j + 1)) := by
  funext y
  unfold updN fmark
  rw [List.take_add_one, hx]
  by_cases h : y = x
  · simp [h]
  · simp [h]
theorem OMid.told (h : OMid pn σ f ov) (j x : Nat) (hx : ov[j]? = some x) : (fmark f (ov.take j) x).getD ki.z = 1 := by
  have hn : x ∉ ov.take j := by
    have h1 := h.nd
    rw [← List.take_append_drop j ov] at h1
    intro hm
    have hd : x ∈ ov.drop j := by
      have := List.getElem?_drop (xs := ov) (i := j) (j := 0)
      rw [Nat.add_zero, hx] at this
      exact List.mem_of_getElem? this
    exact (List.nodup_append.1 h1).2.2 x hm x hd rfl
  unfold fmark
  rw [if_neg hn, h.one]
  exact .inr (List.mem_of_getElem? hx)
theorem OMid.done (h : OMid pn σ f ov) : OMid pn σ (fmark f ov) [] := by
  refine ⟨h.la, h.mem, fun x => ?_, .nil, by simp, h.eag, h.tot, by have := h.ln; simp; omega, by simp⟩
  unfold fmark
  by_cases hx : x ∈ ov
  · rw [if_pos hx]
    have := h.dj x hx
    simp [this]
  · rw [if_neg hx, h.one]
    simp [hx]
theorem OMid.flies (h : OMid pn σ f ov) : flight σ.opens = σ.opens.length := by
  unfold flight
  have : ∀ l : List Pkt, (∀ s ∈ l, s.eager = true ∧ s.size = 1) → (l.map fun s => if s.eager then s.size else 0).sum = l.length := by
    intro l
    induction l with
    | nil => intro _; rfl
    | cons s l ih =>
      intro hl
      obtain ⟨h1, h2⟩ := hl s (by simp)
      rw [List.map_cons, List.sum_cons, ih (fun t ht => hl t (by simp [ht])), h1, h2, List.length_cons]
      simp
      omega
  exact this _ h.eag
end
/-- How many of them lie below p. -/
def under (l : List Nat) (p : Nat) : Nat := (l.filter fun x => decide (x < p)).length
theorem under_cons (x : Nat) (l : List Nat) (p : Nat) : under (x :: l) p = (if x < p then 1 else 0) + under l p := by
  unfold under
  rw [List.filter_cons]
  by_cases h : x < p
  · simp [h]; omega
  · simp [h]
theorem under_none : ∀ {l : List Nat} {p : Nat}, (∀ x ∈ l, p ≤ x) → under l p = 0
  | [], _, _ => rfl
  | x :: l, p, h => by
    rw [under_cons, under_none (fun y hy => h y (by simp [hy])), if_neg (by have := h x (by simp); omega)]
theorem under_all : ∀ {l : List Nat} {p : Nat}, (∀ x ∈ l, x < p) → under l p = l.length
  | [], _, _ => rfl
  | x :: l, p, h => by
    rw [under_cons, under_all (fun y hy => h y (by simp [hy])), if_pos (h x (by simp)), List.length_cons]
    omega
theorem under_in : ∀ {l : List Nat} {p : Nat}, l.Pairwise (· < ·) → p ∈ l → l[under l p]? = some p ∧ under l (p + 1) = under l p + 1
  | [], _, _, h => by cases h
  | x :: l, p, hp, hm => by
    obtain ⟨h1, h2⟩ := List.pairwise_cons.1 hp
    rw [under_cons, under_cons]
    rcases List.mem_cons.1 hm with rfl | hm
    · rw [under_none (fun y hy => by have := h1 y hy; omega), under_none (fun y hy => by have := h1 y hy; omega)]
      simp
    · have := h1 p hm
      obtain ⟨i1, i2⟩ := under_in h2 hm
      rw [if_pos this, if_pos (by omega), i2, Nat.add_comm 1, List.getElem?_cons_succ]
      exact ⟨i1, by omega⟩
theorem under_out : ∀ {l : List Nat} {p : Nat}, p ∉ l → under l (p + 1) = under l p
  | [], _, _ => rfl
  | x :: l, p, h => by
    rw [under_cons, under_cons, under_out (fun hm => h (by simp [hm]))]
    have : x ≠ p := fun e => h (by simp [e])
    by_cases hx : x < p
    · rw [if_pos hx, if_pos (by omega)]
    · rw [if_neg hx, if_neg (by omega)]
theorem under_le (l : List Nat) (p : Nat) : under l p ≤ l.length := by unfold under; exact List.length_filter_le _ _
/-- The ranges of an act, brought into what was sent. -/
def rngO (pn : Nat) (y : Rng) : Rng := (y.1 % pn, min (y.1 % pn + y.2 % 3) (pn - 1))
theorem rngO_ok (pn : Nat) (h : 0 < pn) (l : List Rng) : ∀ x ∈ l.map (rngO pn), x.1 ≤ x.2 ∧ x.2 < pn := by
  intro x hx
  obtain ⟨y, _, rfl⟩ := List.mem_map.1 hx
  have := Nat.mod_lt y.1 h
  unfold rngO
  simp only
  omega
end Go.Proofs.Ythnokfchebmjiaa
