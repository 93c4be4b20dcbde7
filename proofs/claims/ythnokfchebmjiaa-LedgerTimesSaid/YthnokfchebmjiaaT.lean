/- Laws on what a call may touch, and on slices that a call owns, wherever in their block they begin. Conditions: none of their own. -/
import Derived.Test.YthnokfchebmjiaaBase
import Derived.ArgAppend
import Derived.Laws.CopyRow
namespace Go.Proofs.Ythnokfchebmjiaa
open Go.RowKit

theorem pos_of_lt {j n sz : Nat} (h : j < n * sz) : 0 < n := by
  rcases Nat.eq_zero_or_pos n with r | r
  · subst r; simp at h
  · exact r
/-- Nothing but the blocks of ks, and new ones, is turned. -/
structure Touch (ks : List Nat) (w w' : World) : Prop where
  os : w'.os = w.os
  tape : w'.tape = w.tape
  output : w'.output = w.output
  size : w.heap.size ≤ w'.heap.size
  block : ∀ k, k < w.heap.size → k ∉ ks → w'.heap[k]? = w.heap[k]?
section
variable {ks js : List Nat} {w w1 w2 : World}
theorem Touch.refl (ks : List Nat) (w : World) : Touch ks w w := ⟨rfl, rfl, rfl, Nat.le_refl _, fun _ _ _ => rfl⟩
theorem Touch.trans (h : Touch ks w w1) (k : Touch js w1 w2) (hj : ∀ j ∈ js, j ∈ ks ∨ w.heap.size ≤ j) : Touch ks w w2 :=
  ⟨k.os.trans h.os, k.tape.trans h.tape, k.output.trans h.output, Nat.le_trans h.size k.size, fun i hi hn => by
    rw [k.block i (Nat.lt_of_lt_of_le hi h.size) (fun hm => by exact (hj i hm).elim hn (fun h1 => by omega))]
    exact h.block i hi hn⟩
theorem Touch.mono (h : Touch ks w w1) (hj : ∀ j ∈ ks, j ∈ js ∨ w.heap.size ≤ j) : Touch js w w1 :=
  ⟨h.os, h.tape, h.output, h.size, fun k hk hn => h.block k hk (fun hm => by exact (hj k hm).elim hn (fun h1 => by omega))⟩
theorem Touch.drew (h : Touch ks w w1) : Touch ks w w1.drew := ⟨h.os, h.tape, h.output, h.size, h.block⟩
theorem Touch.drewN (h : Touch ks w w1) (n : Nat) : Touch ks w (w1.drewN n) := ⟨h.os, h.tape, h.output, h.size, h.block⟩
theorem Touch.alloc (h : Touch ks w w1) (o : Obj) : Touch ks w (w1.alloc o) :=
  h.trans (js := []) ⟨rfl, rfl, rfl, by simp, fun k hk _ => Below.heap_alloc _ _ _ hk⟩ (by simp)
theorem Touch.set (h : Touch ks w w1) {p : Addr} (hp : p.block ∈ ks ∨ w.heap.size ≤ p.block) (v : Value) : Touch ks w (w1.setCell p v) :=
  h.trans (js := [p.block]) ⟨rfl, rfl, rfl, by simp [World.setCell], fun k hk hn => Below.heap_setCell _ _ _ _ (by simpa using hn)⟩ (by simpa using hp)
theorem Touch.of_below (h : Below w.heap.size w w1) : Touch [] w w1 := ⟨h.os, h.tape, h.output, h.size, fun k hk _ => h.block k hk⟩
theorem Touch.below (h : Touch ks w w1) {B : Nat} (hB : B ≤ w.heap.size) (hk : ∀ k ∈ ks, B ≤ k) : Below B w w1 :=
  ⟨h.os, h.tape, h.output, h.size, fun k hk' => h.block k (by omega) (fun hm => by have := hk k hm; omega)⟩
theorem Touch.of_grown {row : Option Nat} (h : w.grownBy w1 row) : Touch row.toList w w1 :=
  ⟨h.os, h.tape, h.output, h.size, fun k hk hn => h.block k hk (fun e => hn (by rw [← e]; simp))⟩
theorem Touch.cell (h : Touch ks w w1) {a : Addr} {v : Value} (hc : w.cell? a = some v) (hn : a.block ∉ ks) : w1.cell? a = some v :=
  (World.cell?_of_block (h.block a.block (World.block_lt_of_cell? w a hc) hn)).trans hc
theorem Touch.cellAt (h : Touch ks w w1) {b : Nat} (o : Nat) (hb : b < w.heap.size) (hn : b ∉ ks) : w1.cell? ⟨b, o, none⟩ = w.cell? ⟨b, o, none⟩ :=
  World.cell?_of_block (a := ⟨b, o, none⟩) (h.block b hb hn)
theorem Touch.frozenAt (h : Touch ks w w1) {b : Nat} (o : Nat) (hb : b < w.heap.size) (hn : b ∉ ks) : w1.frozen? ⟨b, o, none⟩ = w.frozen? ⟨b, o, none⟩ :=
  World.frozen?_of_block (a := ⟨b, o, none⟩) (h.block b hb hn)
theorem IsBlk.touch {n : Nat} {vs : List Value} {t : TypeId} (h : IsBlk w n vs t) (hk : Touch ks w w1) (hn : n ∉ ks) : IsBlk w1 n vs t := by
  unfold IsBlk at *
  rw [hk.block n (Array.getElem?_eq_some_iff.1 h).1 hn]; exact h
end

/-- The block in which a slice value lies. -/
def own : Value → List Nat
  | .slice (some a) _ c => if c = 0 then [] else [a.block]
  | _ => []
@[simp] theorem own_none (n c : Nat) : own (.slice none n c) = [] := rfl
theorem own_some (a : Addr) (n c : Nat) (h : 0 < c) : own (.slice (some a) n c) = [a.block] := by simp [own]; omega
theorem own_zero (a : Addr) (n : Nat) : own (.slice (some a) n 0) = [] := by simp [own]
theorem mem_own {g : Nat} {a : Addr} {n c : Nat} (h : g ∈ own (.slice (some a) n c)) : g = a.block ∧ 0 < c := by
  simp [own] at h
  exact ⟨h.2, by omega⟩
theorem own_sub {b o o' n n' c c' : Nat} {s s' : Option Nat} (h : c' ≤ c) : ∀ g ∈ own (.slice (some ⟨b, o', s'⟩) n' c'), g ∈ own (.slice (some ⟨b, o, s⟩) n c) := fun g hg => by
  have := mem_own hg
  rw [own_some _ _ _ (by omega)]
  simp [this.1]

/-- The slice v reads as the cells xs, n elements of sz cells. -/
def Rd (w : World) (sz : Nat) (v : Value) (n : Nat) (xs : List Value) : Prop :=
  xs.length = n * sz ∧ ((∃ a c, v = .slice a n c ∧ n = 0) ∨ ∃ b off cap, v = .slice (some ⟨b, off, none⟩) n cap ∧ n ≤ cap ∧ (0 < n → b < w.heap.size) ∧ ∀ j, j < n * sz → w.cell? ⟨b, off + j, none⟩ = xs[j]?)
/-- The slice v lies in a block of cells that is not frozen: n elements, the cells xs. -/
def Sl (w : World) (e : TypeId) (sz : Nat) (v : Value) (n : Nat) (xs : List Value) : Prop :=
  xs.length = n * sz ∧ ((v = .slice none 0 0 ∧ n = 0) ∨
    ∃ g off cap, v = .slice (some ⟨g, off, none⟩) n cap ∧ n ≤ cap ∧ cap ≤ maxLen ∧ (0 < cap → ∃ cur, w.heap[g]? = some (.cells cur e (0, 0)) ∧ off + cap * sz ≤ cur.size ∧ ∀ j, j < n * sz → cur[off + j]? = xs[j]?))
section
variable {w w' : World} {e : TypeId} {sz : Nat} {v : Value} {n : Nat} {xs : List Value} {ks : List Nat}
theorem Sl.nil (w : World) (e : TypeId) (sz : Nat) : Sl w e sz (.slice none 0 0) 0 [] := ⟨by simp, .inl ⟨rfl, rfl⟩⟩
theorem Sl.len (h : Sl w e sz v n xs) : xs.length = n * sz := h.1
theorem Sl.rd (h : Sl w e sz v n xs) : Rd w sz v n xs := by
  refine ⟨h.1, ?_⟩
  rcases h.2 with ⟨rfl, rfl⟩ | ⟨g, off, cap, rfl, hn, _, hg⟩
  · exact .inl ⟨none, 0, rfl, rfl⟩
  · refine .inr ⟨g, off, cap, rfl, hn, fun h0 => ?_, fun j hj => ?_⟩
    · obtain ⟨cur, hg, _⟩ := hg (by omega)
      exact (Array.getElem?_eq_some_iff.1 hg).1
    · have h0 : 0 < n := pos_of_lt hj
      obtain ⟨cur, hg, _, hc⟩ := hg (by omega)
      exact (cell_of_row w g _ cur e _ hg).trans (hc j hj)
theorem Sl.lt (h : Sl w e sz v n xs) : ∀ g ∈ own v, g < w.heap.size := by
  rcases h.2 with ⟨rfl, _⟩ | ⟨g, off, cap, rfl, _, _, hg⟩
  · simp
  · intro g' hg'
    obtain ⟨rfl, h0⟩ := mem_own hg'
    obtain ⟨cur, hg, _⟩ := hg h0
    exact (Array.getElem?_eq_some_iff.1 hg).1
theorem Sl.touch (h : Sl w e sz v n xs) (hk : Touch ks w w') (hn : ∀ g ∈ own v, g ∉ ks) : Sl w' e sz v n xs := by
  refine ⟨h.1, ?_⟩
  rcases h.2 with h2 | ⟨g, off, cap, rfl, h1, h2, hg⟩
  · exact .inl h2
  · refine .inr ⟨g, off, cap, rfl, h1, h2, fun h0 => ?_⟩
    obtain ⟨cur, hg, r⟩ := hg h0
    exact ⟨cur, by rw [hk.block g (Array.getElem?_eq_some_iff.1 hg).1 (hn g (by rw [own_some _ _ _ h0]; simp))]; exact hg, r⟩
theorem Sl.of_owns {base : Nat} (h : w.ownsRow base e sz v n xs) : Sl w e sz v n xs ∧ ∀ g ∈ own v, base ≤ g := by
  rcases h.2 with ⟨rfl, rfl⟩ | ⟨g, cap, cur, rfl, hb, hg, h1, h2, h3, h4⟩
  · exact ⟨⟨h.1, .inl ⟨rfl, rfl⟩⟩, by simp⟩
  · refine ⟨⟨h.1, .inr ⟨g, 0, cap, rfl, h1, h2, fun _ => ⟨cur, hg, by omega, fun j hj => ?_⟩⟩⟩, fun g' hg' => by rw [(mem_own hg').1]; exact hb⟩
    rw [← h4, List.getElem?_take, if_pos hj]
    simp
theorem Sl.wide (h : Sl w e sz v n xs) : n ≤ maxLen := by
  rcases h.2 with ⟨rfl, rfl⟩ | ⟨g, off, cap, rfl, h1, h2, _⟩
  · exact Nat.zero_le _
  · omega
theorem Sl.form (h : Sl w e sz v n xs) : ∃ a c, v = .slice a n c ∧ (a = none ↔ v = .slice none 0 0) := by
  rcases h.2 with ⟨rfl, rfl⟩ | ⟨g, off, cap, rfl, h1, h2, _⟩
  · exact ⟨none, 0, rfl, by simp⟩
  · exact ⟨_, _, rfl, by simp⟩
theorem Sl.zero (h : Sl w e sz v 0 xs) : xs = [] := List.eq_nil_of_length_eq_zero (by simpa using h.1)
/-- A part of the slice, with some of its capacity. -/
theorem Sl.part {g off cap : Nat} (h : Sl w e sz (.slice (some ⟨g, off, none⟩) n cap) n xs) (k m c : Nat) (hkm : k + m ≤ n) (hc : m ≤ c) (hck : c + k ≤ cap) :
    Sl w e sz (.slice (some ⟨g, off + k * sz, none⟩) m c) m ((xs.drop (k * sz)).take (m * sz)) := by
  have e1 : (k + m) * sz ≤ n * sz := Nat.mul_le_mul_right _ hkm
  have e2 : (c + k) * sz ≤ cap * sz := Nat.mul_le_mul_right _ hck
  rw [Nat.add_mul] at e1 e2
  have hx := h.1
  refine ⟨by simp; omega, ?_⟩
  rcases h.2 with ⟨h3, _⟩ | ⟨g', off', cap', h3, h1, h2, hg⟩
  · simp at h3
  · simp at h3
    obtain ⟨⟨rfl, rfl⟩, rfl⟩ := h3
    refine .inr ⟨g, off + k * sz, c, rfl, hc, by omega, fun h0 => ?_⟩
    obtain ⟨cur, hg, h5, h6⟩ := hg (by omega)
    refine ⟨cur, hg, by omega, fun j hj => ?_⟩
    rw [List.getElem?_take, if_pos hj, List.getElem?_drop, Nat.add_assoc]
    exact h6 _ (by omega)
/-- The slice's two forms. -/
theorem Sl.cases (h : Sl w e sz v n xs) : (v = .slice none 0 0 ∧ n = 0 ∧ xs = []) ∨
    ∃ g off cap, v = .slice (some ⟨g, off, none⟩) n cap ∧ n ≤ cap ∧ cap ≤ maxLen ∧ (0 < cap → g < w.heap.size) ∧ (∀ j, j < n * sz → w.cell? ⟨g, off + j, none⟩ = xs[j]?) ∧ (0 < cap → ∀ j, w.frozen? ⟨g, j, none⟩ = false) := by
  rcases h.2 with ⟨rfl, rfl⟩ | ⟨g, off, cap, rfl, h1, h2, hg⟩
  · exact .inl ⟨rfl, rfl, List.eq_nil_of_length_eq_zero (by simpa using h.1)⟩
  · refine .inr ⟨g, off, cap, rfl, h1, h2, fun h0 => ?_, fun j hj => ?_, fun h0 j => ?_⟩
    · obtain ⟨cur, hg, _⟩ := hg h0
      exact (Array.getElem?_eq_some_iff.1 hg).1
    · have h0 : 0 < n := pos_of_lt hj
      obtain ⟨cur, hg, _, hc⟩ := hg (by omega)
      exact (cell_of_row w g _ cur e _ hg).trans (hc j hj)
    · obtain ⟨cur, hg, _⟩ := hg h0
      simp [World.frozen?, hg]
/-- A cell of the slice is written. -/
theorem Sl.set {g off cap : Nat} (h : Sl w e sz (.slice (some ⟨g, off, none⟩) n cap) n xs) (j : Nat) (u : Value) : Sl (w.setCell ⟨g, off + j, none⟩ u) e sz (.slice (some ⟨g, off, none⟩) n cap) n (xs.set j u) := by
  refine ⟨by simpa using h.1, ?_⟩
  rcases h.2 with ⟨h3, _⟩ | ⟨g', off', cap', h3, h1, h2, hg⟩
  · simp at h3
  · simp at h3
    obtain ⟨⟨rfl, rfl⟩, rfl⟩ := h3
    refine .inr ⟨g, off, cap, rfl, h1, h2, fun h0 => ?_⟩
    obtain ⟨cur, hg, h5, h6⟩ := hg h0
    have hx := h.1
    refine ⟨cur.setIfInBounds (off + j) u, by simp [World.setCell, Array.getElem?_modify, hg], by simpa using h5, fun k hk => ?_⟩
    have hle : n * sz ≤ cap * sz := Nat.mul_le_mul_right _ h1
    by_cases hkj : j = k
    · subst hkj
      rw [Array.getElem?_setIfInBounds, if_pos rfl, if_pos (by omega), List.getElem?_set_self (by omega)]
    · rw [Array.getElem?_setIfInBounds, if_neg (by omega), List.getElem?_set_ne (by omega)]
      exact h6 k hk
theorem Rd.touch (h : Rd w sz v n xs) (hk : Touch ks w w') (hn : ∀ g ∈ own v, g ∉ ks) : Rd w' sz v n xs := by
  refine ⟨h.1, ?_⟩
  rcases h.2 with h2 | ⟨b, off, cap, rfl, hnc, hb, hc⟩
  · exact .inl h2
  · refine .inr ⟨b, off, cap, rfl, hnc, fun h0 => Nat.lt_of_lt_of_le (hb h0) hk.size, fun j hj => ?_⟩
    have h0 : 0 < n := pos_of_lt hj
    rw [hk.cellAt _ (hb h0) (hn b (by rw [own_some _ _ _ (by omega)]; simp))]
    exact hc j hj
theorem Rd.keep (h : Rd w sz v n xs) (hk : Below w.heap.size w w') : Rd w' sz v n xs := h.touch (Touch.of_below hk) (by simp)
/-- The slice's two forms. -/
theorem Rd.cases (h : Rd w sz v n xs) : (∃ a c, v = .slice a 0 c ∧ n = 0 ∧ xs = []) ∨
    ∃ g off cap, v = .slice (some ⟨g, off, none⟩) n cap ∧ n ≤ cap ∧ (0 < n → g < w.heap.size) ∧ (∀ j, j < n * sz → w.cell? ⟨g, off + j, none⟩ = xs[j]?) := by
  rcases h.2 with ⟨a, c, rfl, rfl⟩ | h2
  · exact .inl ⟨a, c, rfl, rfl, List.eq_nil_of_length_eq_zero (by simpa using h.1)⟩
  · exact .inr h2
theorem Rd.form (h : Rd w sz v n xs) : ∃ a c, v = .slice a n c := by
  rcases h.2 with ⟨a, c, rfl, rfl⟩ | ⟨b, off, cap, rfl, _⟩
  · exact ⟨a, c, rfl⟩
  · exact ⟨_, _, rfl⟩
end

section
variable {P : Program} {w : World} {e : TypeId} {sz : Nat} {v : Value} {n : Nat} {xs : List Value}
theorem run_firstCells_rd {x : Value} {m : Nat} {news : List Value} (hx : Rd w sz x m news) : (Builtin.firstCells sz m x).run P w = .ok news.toArray w := by
  rcases hx.2 with ⟨a, c, rfl, rfl⟩ | ⟨b, off, cap, rfl, _, _, hc⟩
  · have : news = [] := List.eq_nil_of_length_eq_zero (by simpa using hx.1)
    subst this
    cases a with
    | none => rfl
    | some a => exact run_firstCells_some (P := P) w sz 0 a 0 c [] (by simp) (fun j u hu => by simp at hu)
  · exact run_firstCells_some (P := P) w sz m ⟨b, off, none⟩ m cap news hx.1 fun j u hu => by
      have hj : j < news.length := (List.getElem?_eq_some_iff.1 hu).1
      rw [Addr.add_lit, hc j (by rw [← hx.1]; exact hj)]
      exact hu
theorem Rd.lenOf {x : Value} {m : Nat} {news : List Value} (hx : Rd w sz x m news) : (Builtin.lenOf x).run P w = .ok m w := by
  rcases hx.2 with ⟨a, c, rfl, rfl⟩ | ⟨b, off, cap, rfl, _⟩ <;> rfl

/-- append onto a slice that the call owns, wherever it begins. -/
theorem run_append_sl (t ty : TypeId) (i : TypeInfo) (z : Value) (bytes : Nat) (ht : P.underlying t = some (.slice e)) (hi : P.info? e = some i) (hz : i.zero = some z)
    (hsize : i.size = sz) (hby : i.bytes = bytes) (hzs : z.cells.size = sz) (hsz : 0 < sz) (hv : Sl w e sz v n xs) {x : Value} {m : Nat} {news : List Value} (hx : Rd w sz x m news)
    (h1 : ∀ u ∈ news, u.oneCell' = true) (h63 : n + m ≤ maxLen) (hbytes : (n + m) * bytes ≤ 140737488355328) :
    ∃ v' w', (Builtin.append_ #[t, t] ty #[v, x]).run P w = .ok v' w' ∧ Sl w' e sz v' (n + m) (xs ++ news) ∧ Touch (own v) w w' ∧ (∀ g ∈ own v', g ∈ own v ∨ w.heap.size ≤ g) ∧ (v' = .slice none 0 0 ↔ v = .slice none 0 0 ∧ m = 0) := by
  subst hsize
  subst hby
  have hlen : (xs ++ news).length = (n + m) * i.size := by rw [List.length_append, hv.1, hx.1, Nat.add_mul]
  have hfx := run_firstCells_rd (P := P) hx
  rcases hx.2 with ⟨b, c, rfl, rfl⟩ | ⟨b, off, c, rfl, hmc, _, hc⟩
  · obtain rfl : news = [] := List.eq_nil_of_length_eq_zero (by simpa using hx.1)
    refine ⟨v, w, ?_, by simpa using hv, Touch.refl _ _, fun g hg => .inl hg, by simp⟩
    rcases hv.2 with ⟨rfl, rfl⟩ | ⟨g, off, cap, rfl, h2, h3, hg⟩
    · simp [Builtin.append_, run_underlying ht, sizeOf, typeInfo, hi, Builtin.lenOf, hfx]
    · simp [Builtin.append_, run_underlying ht, sizeOf, typeInfo, hi, Builtin.lenOf, hfx, h2, storeCells]
  · have hnews : ∀ j u, news[j]? = some u → w.cell? ((⟨b, off, none⟩ : Addr).add j) = some u := fun j u hu => by
      have hj : j < news.length := (List.getElem?_eq_some_iff.1 hu).1
      rw [Addr.add_lit, hc j (by rw [← hx.1]; exact hj)]
      exact hu
    rcases hv.2 with ⟨rfl, rfl⟩ | ⟨g, off', cap, rfl, h2, h3, hgc⟩
    · obtain rfl : xs = [] := List.eq_nil_of_length_eq_zero (by simpa using hv.1)
      obtain ⟨v', w', hr, ho, hgr, hn⟩ := run_append_own (P := P) w w.heap.size t ty e i z i.size i.bytes ht hi hz rfl rfl hzs hsz (.slice none 0 0) 0 [] (World.ownsRow_nil w _ e _) ⟨b, off, none⟩ m c news hx.1 hnews h1 h63 hbytes (Nat.le_refl _)
      have hs := Sl.of_owns ho
      exact ⟨v', w', hr, hs.1, Touch.of_grown hgr, fun g hg => .inr (hs.2 g hg), hn⟩
    · by_cases hroom : n + m ≤ cap
      · have hfc := run_firstCells_some (P := P) w i.size m ⟨b, off, none⟩ m c news hx.1 hnews
        rcases Nat.eq_zero_or_pos cap with h0 | h0
        · subst h0
          obtain rfl : n = 0 := by omega
          obtain rfl : m = 0 := by omega
          obtain rfl : news = [] := List.eq_nil_of_length_eq_zero (by simpa using hx.1)
          refine ⟨.slice (some ⟨g, off', none⟩) 0 0, w, ?_, by simpa using hv, Touch.refl _ _, fun g hg => .inl hg, by simp⟩
          simp [Builtin.append_, run_underlying ht, sizeOf, typeInfo, hi, Builtin.lenOf, hfc, storeCells]
        · obtain ⟨cur, hg, h4, h5⟩ := hgc h0
          have e1 : (n + m) * i.size ≤ cap * i.size := Nat.mul_le_mul_right _ hroom
          rw [Nat.add_mul] at e1
          have hst := run_storeCells_at P g (off' + n * i.size) e news 0 cur w hg (by have := hx.1; omega) h1
          simp only [Nat.add_zero] at hst
          refine ⟨.slice (some ⟨g, off', none⟩) (n + m) cap, w.setRow g (cur.toList.take (off' + n * i.size) ++ news ++ cur.toList.drop (off' + n * i.size + news.length)).toArray, ?_, ⟨hlen, .inr ⟨g, off', cap, rfl, hroom, h3, fun _ => ⟨_, setRow_heap w g cur _ e _ hg, ?_, ?_⟩⟩⟩, ⟨rfl, rfl, rfl, by simp [World.setRow], fun k _ hk => setRow_other w g k _ (by rw [own_some _ _ _ h0] at hk; simpa using hk)⟩, fun g hg => .inl ?_, by simp⟩
          · simp [Builtin.append_, run_underlying ht, sizeOf, typeInfo, hi, Builtin.lenOf, hroom, hfc, Addr.add_lit, hst]
          · simp only [List.size_toArray, List.length_append, List.length_take, List.length_drop, Array.length_toList]
            omega
          · intro j hj
            have hxl := hv.1
            have hnl := hx.1
            rw [Nat.add_mul] at hj
            by_cases hjn : j < n * i.size
            · rw [List.getElem?_toArray, List.append_assoc, List.getElem?_append_left (by simp; omega), List.getElem?_take, if_pos (by omega), List.getElem?_append_left (by omega)]
              simpa using h5 j hjn
            · rw [List.getElem?_toArray, List.append_assoc, List.getElem?_append_right (by simp; omega), List.getElem?_append_left (by simp; omega), List.getElem?_append_right (by omega)]
              congr 1
              simp
              omega
          · rw [own_some _ _ _ h0] at hg ⊢
            exact hg
      · obtain ⟨v', w', hr, ho, hgr⟩ := run_append_arg_grows (P := P) w t ty e i z i.size i.bytes ht hi hz rfl rfl hzs hsz ⟨g, off', none⟩ n cap xs hv.1 (fun j u hu => by
          have hj : j < xs.length := (List.getElem?_eq_some_iff.1 hu).1
          rw [hv.1] at hj
          have hn0 : 0 < n := pos_of_lt hj
          obtain ⟨cur, hg, h4, h5⟩ := hgc (by omega)
          rw [Addr.add_lit, cell_of_row w g _ cur e _ hg, h5 j hj]
          exact hu) ⟨b, off, none⟩ m c news hx.1 hnews (by omega) h63 hbytes
        have hs := Sl.of_owns ho
        refine ⟨v', w', hr, hs.1, (Touch.of_grown hgr).mono (by simp), fun g hg => .inr (hs.2 g hg), ?_⟩
        rcases ho.2 with ⟨rfl, h0⟩ | ⟨g', cap', cur', rfl, _⟩
        · omega
        · simp

theorem wp_append_sl (w : World) {o : Oper} {a : Act} {K : Act → World → Prop} {Q : Exit → Act → World → Prop} (s x : Operand) (t : TypeId)
    (ho : o.op = .call { callee := .builtin .append, args := #[s, x], argTypes := #[t, t] })
    (e : TypeId) (i : TypeInfo) (z : Value) (sz bytes : Nat) (ht : P.underlying t = some (.slice e)) (hi : P.info? e = some i) (hz : i.zero = some z)
    (hsize : i.size = sz) (hby : i.bytes = bytes) (hzs : z.cells.size = sz) (hsz : 0 < sz) (v : Value) (n : Nat) (xs : List Value) (hs : a.eval s = v) (hv : Sl w e sz v n xs)
    (xv : Value) (m : Nat) (news : List Value) (hxe : a.eval x = xv) (hx : Rd w sz xv m news) (h1 : ∀ u ∈ news, u.oneCell' = true) (h63 : n + m ≤ maxLen) (hbytes : (n + m) * bytes ≤ 140737488355328)
    (h : ∀ a' c' w', Sl w' e sz (.slice a' (n + m) c') (n + m) (xs ++ news) → Touch (own v) w w' → (∀ g ∈ own (.slice a' (n + m) c'), g ∈ own v ∨ w.heap.size ≤ g) → (a' = none ↔ v = .slice none 0 0 ∧ m = 0) → K (a.put o.dst (.slice a' (n + m) c')) w') : o.wp P a w K Q := by
  obtain ⟨v', w', hr, h2, h3, h4, h5⟩ := run_append_sl (P := P) t o.type i z bytes ht hi hz hsize hby hzs hsz hv hx h1 h63 hbytes
  unfold Oper.wp execOp
  simp only [ho, resolve, invoke, builtin, Sem.run_bind, Sem.run_pure, Result.andThen_ok, List.map_toArray, List.map_cons, List.map_nil, hs, hxe, hr]
  obtain ⟨a', c', rfl, h6⟩ := h2.form
  exact h a' c' w' h2 h3 h4 (by rw [← h5]; exact h6)
theorem wpList_append_sl (w : World) {ops : Array Oper} {rest : List Oper} {o : Oper} {a : Act} {Q : Exit → Act → World → Prop} (hgd : o.guard = none) (s x : Operand) (t : TypeId)
    (ho : o.op = .call { callee := .builtin .append, args := #[s, x], argTypes := #[t, t] })
    (e : TypeId) (i : TypeInfo) (z : Value) (sz bytes : Nat) (ht : P.underlying t = some (.slice e)) (hi : P.info? e = some i) (hz : i.zero = some z)
    (hsize : i.size = sz) (hby : i.bytes = bytes) (hzs : z.cells.size = sz) (hsz : 0 < sz) (v : Value) (n : Nat) (xs : List Value) (hs : a.eval s = v) (hv : Sl w e sz v n xs)
    (xv : Value) (m : Nat) (news : List Value) (hxe : a.eval x = xv) (hx : Rd w sz xv m news) (h1 : ∀ u ∈ news, u.oneCell' = true) (h63 : n + m ≤ maxLen) (hbytes : (n + m) * bytes ≤ 140737488355328)
    (h : ∀ a' c' w', Sl w' e sz (.slice a' (n + m) c') (n + m) (xs ++ news) → Touch (own v) w w' → (∀ g ∈ own (.slice a' (n + m) c'), g ∈ own v ∨ w.heap.size ≤ g) → (a' = none ↔ v = .slice none 0 0 ∧ m = 0) → wpList P ops Q rest (a.put o.dst (.slice a' (n + m) c')) w') : wpList P ops Q (o :: rest) a w :=
  wpList_plain hgd fun _ hK => wp_append_sl w s x t ho e i z sz bytes ht hi hz hsize hby hzs hsz v n xs hs hv xv m news hxe hx h1 h63 hbytes fun a' c' w' g1 g2 g3 g4 => hK _ _ (h a' c' w' g1 g2 g3 g4)
/-- The same as a step of a region that draws its order. -/
theorem step_append_sl (w : World) {ops : Array Oper} {o : Oper} {a : Act} {K : Act → World → Prop} {Q : Exit → Act → World → Prop} {E : Prop} (hgd : o.guard = none) (s x : Operand) (t : TypeId)
    (ho : o.op = .call { callee := .builtin .append, args := #[s, x], argTypes := #[t, t] })
    (e : TypeId) (i : TypeInfo) (z : Value) (sz bytes : Nat) (ht : P.underlying t = some (.slice e)) (hi : P.info? e = some i) (hz : i.zero = some z)
    (hsize : i.size = sz) (hby : i.bytes = bytes) (hzs : z.cells.size = sz) (hsz : 0 < sz) (v : Value) (n : Nat) (xs : List Value) (hs : a.eval s = v) (hv : Sl w e sz v n xs)
    (xv : Value) (m : Nat) (news : List Value) (hxe : a.eval x = xv) (hx : Rd w sz xv m news) (h1 : ∀ u ∈ news, u.oneCell' = true) (h63 : n + m ≤ maxLen) (hbytes : (n + m) * bytes ≤ 140737488355328)
    (h : ∀ a' c' w', Sl w' e sz (.slice a' (n + m) c') (n + m) (xs ++ news) → Touch (own v) w w' → (∀ g ∈ own (.slice a' (n + m) c'), g ∈ own v ∨ w.heap.size ≤ g) → (a' = none ↔ v = .slice none 0 0 ∧ m = 0) → K (a.put o.dst (.slice a' (n + m) c')) w') :
    if Region.wanted o (yielded ops a.tmps) = true then Oper.wp P o a w K Q else E := by
  have hw : Region.wanted o (yielded ops a.tmps) = true := by simp [Region.wanted, hgd]
  rw [if_pos hw]
  exact wp_append_sl w s x t ho e i z sz bytes ht hi hz hsize hby hzs hsz v n xs hs hv xv m news hxe hx h1 h63 hbytes h
end

/-- A list with others laid over it from a place on. -/
def lay : List Value → Nat → List Value → List Value
  | xs, _, [] => xs
  | xs, k, y :: ys => lay (xs.set k y) (k + 1) ys
theorem lay_eq : ∀ (ys xs : List Value) (k : Nat), k + ys.length ≤ xs.length → lay xs k ys = xs.take k ++ ys ++ xs.drop (k + ys.length)
  | [], xs, k, _ => by simp [lay]
  | y :: ys, xs, k, h => by
    simp at h
    have e : xs.set k y = (xs.take k ++ [y]) ++ xs.drop (k + 1) := by
      rw [List.set_eq_take_append_cons_drop, if_pos (by omega)]
      simp
    have hl : (xs.take k ++ [y]).length = k + 1 := by simp; omega
    rw [lay, lay_eq ys _ _ (by simp; omega), e, List.take_left' hl, List.drop_append, hl, List.drop_eq_nil_of_le (by omega), List.nil_append, List.drop_drop]
    simp only [List.append_assoc, List.cons_append, List.nil_append, List.length_cons]
    rw [show k + 1 + (k + 1 + ys.length - (k + 1)) = k + (ys.length + 1) from by omega]
theorem Sl.setCells {e : TypeId} {sz n g off cap : Nat} : ∀ (ys xs : List Value) (k : Nat) (w : World), Sl w e sz (.slice (some ⟨g, off, none⟩) n cap) n xs → Sl (w.setCells g (off + k) ys) e sz (.slice (some ⟨g, off, none⟩) n cap) n (lay xs k ys)
  | [], xs, k, w, h => h
  | y :: ys, xs, k, w, h => by
    have := Sl.setCells ys _ (k + 1) _ (h.set k y)
    exact this
theorem Touch.setCells {g : Nat} : ∀ (ys : List Value) (o : Nat) (w : World), Touch [g] w (w.setCells g o ys)
  | [], o, w => Touch.refl _ _
  | y :: ys, o, w => ((Touch.refl [g] w).set (p := ⟨g, o, none⟩) (.inl (by simp)) y).trans (Touch.setCells ys (o + 1) _) (by simp)
end Go.Proofs.Ythnokfchebmjiaa
