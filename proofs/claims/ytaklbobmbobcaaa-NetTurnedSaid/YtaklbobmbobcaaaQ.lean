/- A map of counts, keyed by a byte, as a plain function; a net of single bytes beside it. Conditions: the counts fit an int. -/
import Derived.Test.YtaklbobmbobcaaaH
import Derived.MapViews
import Derived.Maps.Own
import Derived.Maps.OwnOps
import Derived.Maps.Views
namespace Go.Proofs.Ytaklbobmbobcaaa
open Go.RowKit Go.Maps Go.WideMaps Go.ChangeShapes Go.WideShapes Go.ChangeAt

theorem und40 : Try.prog.underlying 40 = some (.map 5 3) := by kernel_rfl
theorem zeroI (w : World) : (zeroValue 3).run Try.prog w = .ok (.int .i64 0) w := by kernel_rfl
theorem lawB : Keyed Try.prog 5 := int_keyed Try.underlying5
def keyB (c : UInt8) : Value := .int .u8 (c.toNat : Int)
theorem wfB (c : UInt8) : (Lit.int .u8 (c.toNat : Int)).wf = true := WalkArith.wf_u8 (by have := c.toNat_lt; omega)
theorem key_at (c : UInt8) : keyOf Try.prog 5 (keyB c) = some (.int .u8 (c.toNat : Int)) := keyOf_int_mk Try.underlying5 (wfB c)
def setC (f : UInt8 → Int) (k : UInt8) (v : Int) : UInt8 → Int := fun x => if x = k then v else f x

/-- Block b is a map of at most n entries that counts as f says. -/
def IsC (w : World) (b n : Nat) (f : UInt8 → Int) : Prop :=
  ∃ D : DataW Unit, w.ownsMap Try.prog 5 (plainElem Try.prog 3) b n D ∧ IsMap D ∧ ∀ c : UInt8, D.atKey (.int .u8 (c.toNat : Int)) (.lit (.int .i64 0)) = .lit (.int .i64 (f c))
section
variable {w w' : World} {b n : Nat} {f : UInt8 → Int}
theorem IsC.made (w : World) : IsC (w.alloc (.map #[] 0)) w.heap.size 0 fun _ => 0 := ⟨.map [], World.ownsMap_made _ _ _ _, isMap_empty, fun _ => rfl⟩
theorem IsC.lt (h : IsC w b n f) : b < w.heap.size := let ⟨_, h1, _⟩ := h; h1.lt
theorem IsC.touch {ks : List Nat} (h : IsC w b n f) (hk : Touch ks w w') (hn : b ∉ ks) : IsC w' b n f := by
  have hl := h.lt
  obtain ⟨D, ⟨es, clock, h0, h1⟩, h2, h3⟩ := h
  exact ⟨D, ⟨es, clock, (hk.block b hl hn).trans h0, h1⟩, h2, h3⟩
theorem IsC.store (h : IsC w b n f) (k : UInt8) (v : Int) (hv : (Lit.int .i64 v).wf = true) (hn : n < maxLen) :
    ∃ w', (Instr.mapUpdate 40 (.map (some b)) (keyB k) (.int .i64 v)).run Try.prog w = .ok () w' ∧ IsC w' b (n + 1) (setC f k v) ∧ Touch [b] w w' := by
  obtain ⟨D, h1, h2, h3⟩ := h
  obtain ⟨w', hr, ho, hg⟩ := h1.update lawB und40 hn (key_at k) (plainElem_int Try.underlying3 hv)
  refine ⟨w', hr, ⟨_, ho, h2.put _ _, fun c => ?_⟩, Touch.of_grown hg⟩
  by_cases e : c = k
  · subst e
    rw [atKey_put_same h2 (lawB.key (key_at c))]
    simp [setC]
  · have hne : (Lit.int .u8 (c.toNat : Int)) ≠ .int .u8 (k.toNat : Int) := by
      intro h
      simp at h
      exact e (UInt8.toNat_inj.1 (by omega))
    rw [atKey_put_other hne, h3 c]
    simp [setC, e]
theorem IsC.look (h : IsC w b n f) (k : UInt8) : (Instr.lookup 40 (.map (some b)) (keyB k) false).run Try.prog w = .ok (.int .i64 (f k)) w := by
  obtain ⟨D, h1, h2, h3⟩ := h
  obtain ⟨c, hr, hat, _⟩ := h1.lookup_int lawB und40 Try.underlying3 (zeroI w) (key_at k)
  rw [h3 k] at hat
  simp at hat
  rw [hr, hat]
end
theorem wpList_store_C (w : World) {ops : Array Oper} {rest : List Oper} {o : Oper} {a : Act} {Q : Exit → Act → World → Prop}
    (hg : o.guard = none) (m x v : Operand) (hop : o.op = Op.mapUpdate 40 m x v) (b n : Nat) (f : UInt8 → Int)
    (hm : a.eval m = .map (some b)) (h : IsC w b n f) (hn : n < maxLen) (k : UInt8) (val : Int) (hx : a.eval x = keyB k) (hv : a.eval v = .int .i64 val) (hw : (Lit.int .i64 val).wf = true)
    (hK : ∀ w', IsC w' b (n + 1) (setC f k val) → Touch [b] w w' → wpList Try.prog ops Q rest (a.put o.dst undef) w') :
    wpList Try.prog ops Q (o :: rest) a w := by
  refine wpList_plain hg fun K' hK' => ?_
  obtain ⟨w', hrun, r1, r2⟩ := h.store k val hw hn
  unfold Oper.wp
  simp [execOp, hop, hm, hx, hv, hrun, Result.andThen]
  exact hK' _ _ (hK w' r1 r2)

/-- The net holds the single bytes S; the map counts them. -/
def NetC (w wr : World) (q m n : Nat) (S : List UInt8) (f : UInt8 → Int) : Prop :=
  ∃ K F, IsNet wr q K F (S.map fun c => [c]) ∧ IsC wr m n f ∧ (∀ g ∈ F, w.heap.size ≤ g) ∧ w.heap.size ≤ m ∧ m ∉ F ∧ Touch [] w wr
section
variable {w wr w' : World} {q m n : Nat} {S S' : List UInt8} {f : UInt8 → Int}
theorem NetC.below (h : NetC w wr q m n S f) : Below w.heap.size w wr :=
  let ⟨_, _, _, _, _, _, _, h5⟩ := h
  h5.below (Nat.le_refl _) (by simp)
theorem NetC.count (h : NetC w wr q m n S f) : IsC wr m n f :=
  let ⟨_, _, _, h1, _⟩ := h
  h1
theorem NetC.stored {n' : Nat} {f' : UInt8 → Int} (h : NetC w wr q m n S f) (k1 : IsC w' m n' f') (k2 : Touch [m] wr w') : NetC w w' q m n' S f' := by
  obtain ⟨K, F, h1, h2, h3, h4, h5, h6⟩ := h
  exact ⟨K, F, h1.touch k2 (fun g hg hm => by simp at hm; exact h5 (hm ▸ hg)), k1, h3, h4, h5, h6.trans k2 (fun g hg => by simp at hg; subst hg; exact .inr h4)⟩
theorem NetC.netted {K F K' F' : List Nat} (h1 : IsNet wr q K F (S.map fun c => [c])) (h2 : IsC wr m n f) (h3 : ∀ g ∈ F, w.heap.size ≤ g) (h4 : w.heap.size ≤ m) (h5 : m ∉ F) (h6 : Touch [] w wr)
    (k1 : IsNet w' q K' F' (S'.map fun c => [c])) (k2 : Touch K wr w') (k4 : Grow F F' wr) : NetC w w' q m n S' f := by
  have hs := h6.size
  have hsub := h1.sub
  have hm := h2.lt
  exact ⟨K', F', k1, h2.touch k2 (fun h => h5 (hsub m h)), fun g hg => (k4 g hg).elim (h3 g) (fun h => by omega), h4, fun hm' => (k4 m hm').elim h5 (fun h => by omega), h6.trans k2 (fun g hg => .inr (h3 g (hsub g hg)))⟩
theorem c_len (h : NetC w wr q m n S f) : Calls Try.prog 16 #[.pointer (some ⟨q, 0, none⟩)] wr fun e w' => e = .returned (.int .i64 S.length) ∧ wr = w' := by
  obtain ⟨K, F, h1, _⟩ := h
  have := netLen_any wr q K F _ h1
  rw [List.length_map] at this
  exact this
theorem c_pull_none (h : NetC w wr q m n [] f) (i : Int) : Calls Try.prog 13 #[.pointer (some ⟨q, 0, none⟩), .int .i64 i] wr fun e w' => e = .returned (.tuple #[.slice none 0 0, .bool false]) ∧ wr = w' := by
  obtain ⟨K, F, h1, _⟩ := h
  exact netPull_no wr q K F _ i h1 (by simp [hasB])
theorem c_pull (h : NetC w wr q m n S f) (k : Nat) (hk : k < S.length) (hL : S.length ≤ 1099511627776) (c : UInt8) (hc : S.getD k 0 = c) :
    Calls Try.prog 13 #[.pointer (some ⟨q, 0, none⟩), .int .i64 (k : Int)] wr fun e w' => ∃ g o cap, e = .returned (.tuple #[.slice (some ⟨g, o, none⟩) 1 cap, .bool true]) ∧ w'.cell? ⟨g, o, none⟩ = some (keyB c) ∧ g ≠ m ∧ g < w'.heap.size ∧ NetC w w' q m n (S.eraseIdx k) f := by
  obtain ⟨K, F, h1, h2, h3, h4, h5, h6⟩ := h
  have hb : (S.map fun c => [c]).getD k [] = [c] := by
    rw [← hc]
    simp [hk]
  refine (netPull_yes wr q K F _ k h1 (by simpa using hk) (by simpa using hL)).mono ?_
  rintro e w' ⟨a, cap, F', rfl, r1, r2, k1, k2, k3⟩
  rw [hb] at r1 r2 ⊢
  rcases r1.cases with ⟨_, h0, _⟩ | ⟨g, o, cap', he, hnc, _, hlt, hcell, _⟩
  · simp at h0
  simp at he
  obtain ⟨rfl, rfl⟩ := he
  simp at hnc
  have hg := r2 g (by rw [own_some _ _ _ (by omega)]; simp)
  refine ⟨g, o, cap, rfl, ?_, fun e => h5 (e ▸ hg.1), hlt (by omega), NetC.netted h1 h2 h3 h4 h5 h6 (by rw [← erase_map]; exact k1) k2 (fun g hg => .inl (k3 g hg))⟩
  have := hcell 0 (by simp)
  rw [Nat.add_zero] at this
  rw [this]
  rfl
theorem c_double (h : NetC w wr q m n S f) (k : Nat) (hk : k < S.length) (hL : S.length + 1 ≤ 1099511627776) (c : UInt8) (hc : S.getD k 0 = c) :
    Calls Try.prog 15 #[.pointer (some ⟨q, 0, none⟩), .int .i64 (k : Int)] wr fun e w' => e = .returned (.bool true) ∧ NetC w w' q m n (S ++ [c]) f := by
  obtain ⟨K, F, h1, h2, h3, h4, h5, h6⟩ := h
  have hb : (S.map fun c => [c]).getD k [] = [c] := by
    rw [← hc]
    simp [hk]
  refine (netDouble_yes wr q K F _ k h1 (by simpa using hk) (by simpa using hL) (by rw [hb]; show 1 ≤ _; omega)).mono ?_
  rw [hb]
  rintro e w' ⟨rfl, K', F', k1, k2, k3, k4⟩
  exact ⟨rfl, NetC.netted h1 h2 h3 h4 h5 h6 (by simpa using k1) k2 k4⟩
theorem c_push {w0 : World} (h : NetC w w0 q m n S f) (hk : Touch [] w0 wr) (c : UInt8) {u x : Value} (hu : Rd wr 1 u 1 (cb [c])) (hou : ∀ g ∈ own u, w0.heap.size ≤ g) (hx : Rd wr 1 x 1 [u]) (hox : ∀ g ∈ own x, w0.heap.size ≤ g) (hl : S.length ≤ 1000) :
    Calls Try.prog 12 #[.pointer (some ⟨q, 0, none⟩), x] wr fun e w' => e = .returned (.tuple #[]) ∧ NetC w w' q m n (S ++ [c]) f := by
  obtain ⟨K, F, h1, h2, h3, h4, h5, h6⟩ := h
  have hlt := h1.lt
  have hsub := h1.sub
  have hfar : ∀ g, w0.heap.size ≤ g → g ∉ K := fun g hg hm => by have := hlt g (hsub g hm); omega
  refine (netPush_any wr q K F _ x [(u, [c])] (h1.keep hk) hx (fun g hg => hfar g (hox g hg)) (fun y hy => ?_) (by simp; omega)).mono ?_
  · simp at hy
    subst hy
    exact ⟨hu, fun g hg => hfar g (hou g hg), by show 1 ≤ _; omega⟩
  rintro e w' ⟨rfl, K', F', k1, k2, k3, k4⟩
  exact ⟨rfl, NetC.netted (h1.keep hk) (h2.touch hk (by simp)) h3 h4 h5 (h6.trans hk (by simp)) (by simpa using k1) k2 k4⟩
end

/-- The function counts the bytes. -/
def Counts (S : List UInt8) (f : UInt8 → Int) : Prop := ∀ c, f c = (S.count c : Int)
theorem Counts.nil : Counts [] fun _ => 0 := fun _ => rfl
theorem Counts.le {S : List UInt8} {f : UInt8 → Int} (h : Counts S f) (c : UInt8) : 0 ≤ f c ∧ f c ≤ S.length := by
  rw [h c]
  have := List.count_le_length (a := c) (l := S)
  omega
theorem Counts.more {S : List UInt8} {f : UInt8 → Int} (h : Counts S f) (c : UInt8) : Counts (S ++ [c]) (setC f c (f c + 1)) := by
  intro x
  rw [List.count_append]
  by_cases e : x = c
  · subst e
    simp [setC, h x]
  · simp [setC, e, h x, Ne.symm e]
theorem Counts.first {S : List UInt8} {f : UInt8 → Int} (h : Counts S f) (c : UInt8) (hc : c ∉ S) : Counts (S ++ [c]) (setC f c 1) := by
  have := h.more c
  rw [h c, List.count_eq_zero_of_not_mem hc] at this
  exact this
theorem count_erase {S : List UInt8} (k : Nat) (hk : k < S.length) (x : UInt8) : S.count x = (S.eraseIdx k).count x + if S[k] = x then 1 else 0 := by
  have e : S = S.take k ++ S[k] :: S.drop (k + 1) := by rw [← List.drop_eq_getElem_cons hk, List.take_append_drop]
  rw [List.eraseIdx_eq_take_drop_succ]
  conv => lhs; rw [e]
  rw [List.count_append, List.count_append, List.count_cons]
  simp only [beq_iff_eq]
  omega
theorem Counts.less {S : List UInt8} {f : UInt8 → Int} (h : Counts S f) (k : Nat) (hk : k < S.length) (c : UInt8) (hc : S.getD k 0 = c) : 1 ≤ f c ∧ Counts (S.eraseIdx k) (setC f c (f c - 1)) := by
  have hS : S[k] = c := by rw [← hc]; simp [hk]
  refine ⟨?_, fun x => ?_⟩
  · have := count_erase k hk c
    rw [if_pos hS] at this
    rw [h c]
    omega
  · have := count_erase k hk x
    by_cases e : x = c
    · subst e
      rw [if_pos hS] at this
      simp [setC, h x]
      omega
    · rw [if_neg (by rw [hS]; exact Ne.symm e)] at this
      simp [setC, e, h x]
      omega
/-- The bytes that are pushed first. -/
def upTo (m : Nat) : List UInt8 := (List.range m).map UInt8.ofNat
theorem upTo_len (m : Nat) : (upTo m).length = m := by simp [upTo]
theorem upTo_succ (m : Nat) : upTo (m + 1) = upTo m ++ [UInt8.ofNat m] := by simp [upTo, List.range_succ]
theorem ofNat_nat (m : Nat) (h : m < 256) : (UInt8.ofNat m).toNat = m := by simp; omega
theorem upTo_new (m : Nat) (h : m < 256) : UInt8.ofNat m ∉ upTo m := by
  intro hm
  simp [upTo] at hm
  obtain ⟨j, hj, e⟩ := hm
  have := congrArg UInt8.toNat e
  rw [ofNat_nat _ (by omega), ofNat_nat _ h] at this
  omega
theorem upTo_get (m k : Nat) (hk : k < m) : (upTo m).getD k 0 = UInt8.ofNat k := by simp [upTo, hk]
theorem open_bs {H : Type} {enc : TypeId × Value → H} {W : World} {base : Nat} {v : Value} {d : DataW H} {p : List MemPlace} (hok : Value.okWide Try.prog W .any base 26 v)
    (h : DataW.Trod enc Try.prog W 0 (fun _ => true) true 26 v d p) (_ : ∀ n ∈ d.weights Try.prog 26, n ≤ reachBytes) : ∃ a b cap, v = .slice a b.length cap ∧ Rd W 1 v b.length (cb b) := by
  obtain ⟨a0, len0, cap0, rfl⟩ := okWide_slice Try.underlying26 hok
  obtain ⟨fuel, hf⟩ := h
  obtain ⟨b, hb⟩ := open_bytes hf
  obtain ⟨a, c, he⟩ := hb.form
  rw [he] at hb ⊢
  exact ⟨a, b, c, rfl, hb⟩
end Go.Proofs.Ytaklbobmbobcaaa
