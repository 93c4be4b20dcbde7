/- Plain facts on packets that go one by one. Conditions: none. -/
import Derived.Test.YthnokfchebmjiaaW
namespace Go.Proofs.Ythnokfchebmjiaa
open Go.RowKit

/-- What the map still holds when the first i were looked at; what has gone. -/
def restL (l : List Pkt) (d : Nat → Bool) (i : Nat) : List Pkt := (l.take i).filter (fun s => !d s.pn) ++ l.drop i
def goneL (l : List Pkt) (d : Nat → Bool) (i : Nat) : List Pkt := (l.take i).filter fun s => d s.pn
section
variable {l : List Pkt} {d : Nat → Bool} {i : Nat} {s : Pkt}
theorem restL_zero (l : List Pkt) (d : Nat → Bool) : restL l d 0 = l := by simp [restL]
theorem goneL_zero (l : List Pkt) (d : Nat → Bool) : goneL l d 0 = [] := by simp [goneL]
theorem dropAt (hs : l[i]? = some s) : l.drop i = s :: l.drop (i + 1) := by
  have hl := List.getElem?_eq_some_iff.1 hs
  rw [List.drop_eq_getElem_cons hl.1, hl.2]
theorem restL_stay (hs : l[i]? = some s) (hd : d s.pn = false) : restL l d (i + 1) = restL l d i := by
  unfold restL
  rw [List.take_add_one, hs, List.filter_append, dropAt hs]
  simp [hd]
theorem goneL_stay (hs : l[i]? = some s) (hd : d s.pn = false) : goneL l d (i + 1) = goneL l d i := by
  unfold goneL
  rw [List.take_add_one, hs, List.filter_append]
  simp [hd]
theorem goneL_go (hs : l[i]? = some s) (hd : d s.pn = true) : goneL l d (i + 1) = goneL l d i ++ [s] := by
  unfold goneL
  rw [List.take_add_one, hs, List.filter_append]
  simp [hd]
theorem restL_sub (l : List Pkt) (d : Nat → Bool) (i : Nat) : (restL l d i).Sublist l := by
  unfold restL
  have h := (List.filter_sublist (l := l.take i) (p := fun s => !d s.pn)).append_right (l.drop i)
  rwa [List.take_append_drop] at h
theorem restL_mem (hs : l[i]? = some s) : s ∈ restL l d i := by
  unfold restL
  rw [dropAt hs]
  simp
theorem restL_find (hp : l.Pairwise (fun s t => s.pn < t.pn)) (hs : l[i]? = some s) : fnd (restL l d i) s.pn = some s := fnd_some (hp.sublist (restL_sub l d i)) (restL_mem hs)
theorem restL_go (hp : l.Pairwise (fun s t => s.pn < t.pn)) (hs : l[i]? = some s) (hd : d s.pn = true) : upd (fnd (restL l d i)) s.pn none = fnd (restL l d (i + 1)) := by
  have e1 : restL l d i = (l.take i).filter (fun s => !d s.pn) ++ s :: l.drop (i + 1) := by unfold restL; rw [dropAt hs]
  have e2 : restL l d (i + 1) = (l.take i).filter (fun s => !d s.pn) ++ l.drop (i + 1) := by
    unfold restL
    rw [List.take_add_one, hs, List.filter_append]
    simp [hd]
  have hp1 := hp.sublist (restL_sub l d i)
  rw [e1] at hp1
  obtain ⟨_, g2, g3⟩ := List.pairwise_append.1 hp1
  obtain ⟨g4, _⟩ := List.pairwise_cons.1 g2
  funext x
  unfold upd
  rw [e1, e2]
  unfold fnd
  rw [List.find?_append, List.find?_append, List.find?_cons]
  by_cases hx : x = s.pn
  · subst hx
    rw [if_pos rfl]
    have h1 : ((l.take i).filter (fun s => !d s.pn)).find? (fun t => t.pn == s.pn) = none := List.find?_eq_none.2 (fun t ht => by have := g3 t ht s (by simp); simp; omega)
    have h2 : (l.drop (i + 1)).find? (fun t => t.pn == s.pn) = none := List.find?_eq_none.2 (fun t ht => by have := g4 t ht; simp; omega)
    rw [h1, h2]
    rfl
  · rw [if_neg hx]
    have : (s.pn == x) = false := by simp; exact fun e => hx e.symm
    rw [this]
theorem restL_all (l : List Pkt) (d : Nat → Bool) : restL l d l.length = l.filter fun s => !d s.pn := by simp [restL]
theorem goneL_all (l : List Pkt) (d : Nat → Bool) : goneL l d l.length = l.filter fun s => d s.pn := by simp [goneL]
theorem pns_get (hs : l[i]? = some s) : (pns l)[i]? = some s.pn := by unfold pns; rw [List.getElem?_map, hs]; rfl
theorem pns_kept (l : List Pkt) (d : Nat → Bool) : kept d (pns l) l.length = pns (l.filter fun s => !d s.pn) := by
  unfold kept
  rw [List.take_of_length_le (by rw [pns_len]; exact Nat.le_refl _)]
  unfold pns
  rw [List.filter_map]
  rfl
theorem goneL_len (l : List Pkt) (d : Nat → Bool) (i : Nat) : (goneL l d i).length ≤ l.length := by
  unfold goneL
  exact Nat.le_trans (List.length_filter_le _ _) (by rw [List.length_take]; omega)
end
/-- A slice of the call's own that lies behind a variable: block b holds it, it holds ns; made behind world w0, beside the blocks Bs. -/
def Box (w0 w' : World) (b : Nat) (ns : List Nat) (Bs : List Nat) : Prop := ∃ a c, IsBlk w' b [.slice a ns.length c] 37 ∧ Sl w' 28 1 (.slice a ns.length c) ns.length (us ns) ∧ w0.heap.size ≤ b ∧ (∀ g ∈ own (.slice a ns.length c), w0.heap.size ≤ g ∧ g ≠ b ∧ g ∉ Bs)
theorem Box.touch {w0 w1 w2 : World} {b : Nat} {ns ks Bs : List Nat} (h : Box w0 w1 b ns Bs) (hk : Touch ks w1 w2) (hn : ∀ g ∈ ks, g < w0.heap.size ∨ g ∈ Bs) (hb : b ∉ Bs) : Box w0 w2 b ns Bs := by
  obtain ⟨a, c, h1, h2, h3, h4⟩ := h
  exact ⟨a, c, h1.touch hk (fun hm => (hn _ hm).elim (fun h => by omega) hb), h2.touch hk (fun g hg hm => (hn _ hm).elim (fun h => by have := (h4 g hg).1; omega) (h4 g hg).2.2), h3, h4⟩
end Go.Proofs.Ythnokfchebmjiaa
