/- Bytes as a text; the walk of the example. Conditions: none of their own. -/
import Derived.Test.YtaklbobmbobcaaaF
import Derived.Laws.BytesArg
import Derived.Lib.SlBytesConst
namespace Go.Proofs.Ytaklbobmbobcaaa
open Go.RowKit

def nums (l : List UInt8) : List Int := l.map fun b => (b.toNat : Int)
def str (l : List UInt8) : ByteArray := ⟨l.toArray⟩
theorem str_nums (l : List UInt8) : strOfNums (nums l) = str l := by
  unfold strOfNums nums str
  rw [List.map_map]
  congr 2
  conv => rhs; rw [← List.map_id l]
  apply List.map_congr_left
  intro x _
  simp
theorem conv_str (w : World) (x : Value) (b : List UInt8) (hx : Rd w 1 x b.length (cb b)) : (convert 26 9 x).run Try.prog w = .ok (.string (str b)) w := by
  rcases hx.cases with ⟨a, c, rfl, h0, _⟩ | ⟨g, off, cap, rfl, _, _, hc⟩
  · obtain rfl : b = [] := List.eq_nil_of_length_eq_zero h0
    cases a with
    | none => exact run_convert_bytes_nil w 26 5 Try.underlying26 Try.underlying5 0 c 9 Try.underlying9
    | some a => exact run_convert_bytes_back w 26 9 5 a c [] Try.underlying26 Try.underlying5 Try.underlying9 (fun j hj => by simp at hj)
  · rw [← str_nums]
    refine run_convert_bytes_arg w 26 5 Try.underlying26 Try.underlying5 g off b.length cap (nums b) (by simp [nums]) (fun i hi => ?_) 9 Try.underlying9
    rw [hc i (by omega)]
    simp [cb, nums, hi]
theorem IsPipe.keep {w w' : World} {p : Nat} {F : List Nat} {s : List UInt8} (h : IsPipe w p F s) (hk : Touch [] w w') : IsPipe w' p F s := h.touch hk (by simp)
theorem IsNet.keep {w w' : World} {q : Nat} {K F : List Nat} {L : List (List UInt8)} (h : IsNet w q K F L) (hk : Touch [] w w') : IsNet w' q K F L := h.touch hk (by simp)

theorem new_rd (w : World) (t : TypeId) (cs : List Value) (c : Nat) (fr : Nat × Nat) (hc : cs.length ≤ c) : Rd (w.alloc (.cells cs.toArray t fr)) 1 (.slice (some ⟨w.heap.size, 0, none⟩) cs.length c) cs.length cs := by
  obtain ⟨lo, hi⟩ := fr
  refine ⟨by simp, .inr ⟨_, 0, c, rfl, hc, fun _ => by simp, fun j hj => ?_⟩⟩
  rw [World.cell?_alloc_mark]
  simp

/-- A pipe and a net beside each other, and datagrams that were handed out. -/
def Both (w wk : World) (p q : Nat) (s : List UInt8) (L : List (List UInt8)) (D : List (Value × List UInt8)) : Prop :=
  ∃ Fp Kn Fn, IsPipe wk p Fp s ∧ IsNet wk q Kn Fn L ∧ (∀ g ∈ Fp, g ∉ Fn ∧ w.heap.size ≤ g) ∧ (∀ g ∈ Fn, w.heap.size ≤ g) ∧ Touch [] w wk ∧ ∀ d ∈ D, Rd wk 1 d.1 d.2.length (cb d.2) ∧ ∀ g ∈ own d.1, g ∉ Fp ∧ g ∉ Kn ∧ g < wk.heap.size
section
variable {w wk w' : World} {p q : Nat} {s : List UInt8} {L : List (List UInt8)} {D : List (Value × List UInt8)}
theorem Both.keep (h : Both w wk p q s L D) (hk : Touch [] wk w') : Both w w' p q s L D := by
  obtain ⟨Fp, Kn, Fn, h1, h2, h3, h4, h5, h6⟩ := h
  exact ⟨Fp, Kn, Fn, h1.keep hk, h2.keep hk, h3, h4, h5.trans hk (by simp), fun d hd => ⟨(h6 d hd).1.touch hk (by simp), fun g hg => let ⟨a, b, c⟩ := (h6 d hd).2 g hg; ⟨a, b, Nat.lt_of_lt_of_le c hk.size⟩⟩⟩
theorem Both.piped {Fp' : List Nat} {Fp Kn Fn : List Nat} {s' : List UInt8} (h2 : IsNet wk q Kn Fn L) (h3 : ∀ g ∈ Fp, g ∉ Fn ∧ w.heap.size ≤ g) (h4 : ∀ g ∈ Fn, w.heap.size ≤ g) (h5 : Touch [] w wk)
    (h6 : ∀ d ∈ D, Rd wk 1 d.1 d.2.length (cb d.2) ∧ ∀ g ∈ own d.1, g ∉ Fp ∧ g ∉ Kn ∧ g < wk.heap.size) (k1 : IsPipe w' p Fp' s') (k2 : Touch Fp wk w') (k3 : ∀ g ∈ Fp', g ∈ Fp ∨ wk.heap.size ≤ g) : Both w w' p q s' L D := by
  have hs := h5.size
  refine ⟨Fp', Kn, Fn, k1, h2.touch k2 (fun g hg hm => (h3 g hm).1 hg), fun g hg => ?_, h4, h5.trans k2 (fun g hg => .inr (h3 g hg).2), fun d hd => ⟨(h6 d hd).1.touch k2 (fun g hg => ((h6 d hd).2 g hg).1), fun g hg => ?_⟩⟩
  · rcases k3 g hg with h | h
    · exact h3 g h
    · exact ⟨fun hm => by have := h2.lt g hm; omega, by omega⟩
  · obtain ⟨a, b, c⟩ := (h6 d hd).2 g hg
    exact ⟨fun hm => (k3 g hm).elim a (fun h => by omega), b, Nat.lt_of_lt_of_le c k2.size⟩
theorem Both.netted {Kn' Fn' : List Nat} {Fp Kn Fn : List Nat} {L' : List (List UInt8)} (h1 : IsPipe wk p Fp s) (h2 : IsNet wk q Kn Fn L) (h3 : ∀ g ∈ Fp, g ∉ Fn ∧ w.heap.size ≤ g) (h4 : ∀ g ∈ Fn, w.heap.size ≤ g) (h5 : Touch [] w wk)
    (h6 : ∀ d ∈ D, Rd wk 1 d.1 d.2.length (cb d.2) ∧ ∀ g ∈ own d.1, g ∉ Fp ∧ g ∉ Kn ∧ g < wk.heap.size) (k1 : IsNet w' q Kn' Fn' L') (k2 : Touch Kn wk w') (k3 : Grow Kn Kn' wk) (k4 : Grow Fn Fn' wk) : Both w w' p q s L' D := by
  have hs := h5.size
  have hsub := h2.sub
  refine ⟨Fp, Kn', Fn', h1.touch k2 (fun g hg hm => (h3 g hg).1 (hsub g hm)), k1, fun g hg => ⟨fun hm => ?_, (h3 g hg).2⟩, fun g hg => ?_, h5.trans k2 (fun g hg => .inr (h4 g (hsub g hg))), fun d hd => ⟨(h6 d hd).1.touch k2 (fun g hg => ((h6 d hd).2 g hg).2.1), fun g hg => ?_⟩⟩
  · rcases k4 g hm with h | h
    · exact (h3 g hg).1 h
    · have := h1.lt g hg
      omega
  · rcases k4 g hg with h | h
    · exact h4 g h
    · omega
  · obtain ⟨a, b, c⟩ := (h6 d hd).2 g hg
    exact ⟨a, fun hm => (k3 g hm).elim b (fun h => by omega), Nat.lt_of_lt_of_le c k2.size⟩

theorem both_push (h : Both w wk p q s L D) (x : Value) (b : List UInt8) (hx : Rd wk 1 x b.length (cb b)) (hl : s.length + b.length ≤ 1099511627776) :
    Calls Try.prog 8 #[.pointer (some ⟨p, 0, none⟩), x] wk fun e w' => e = .returned (.tuple #[]) ∧ Both w w' p q (s ++ b) L D := by
  obtain ⟨Fp, Kn, Fn, h1, h2, h3, h4, h5, h6⟩ := h
  refine (push_any wk p Fp s b x h1 hx hl).mono ?_
  rintro e w' ⟨rfl, F', k1, k2, k3⟩
  exact ⟨rfl, Both.piped h2 h3 h4 h5 h6 k1 k2 k3⟩
theorem both_pull (h : Both w wk p q s L D) (n : Int) (hl : s.length ≤ 1099511627776) :
    Calls Try.prog 9 #[.pointer (some ⟨p, 0, none⟩), .int .i64 n] wk fun e w' => ∃ a c, e = .returned (.slice a (s.take (pullN n s.length)).length c) ∧ Rd w' 1 (.slice a (s.take (pullN n s.length)).length c) (s.take (pullN n s.length)).length (cb (s.take (pullN n s.length))) ∧ Both w w' p q (s.drop (pullN n s.length)) L D := by
  obtain ⟨Fp, Kn, Fn, h1, h2, h3, h4, h5, h6⟩ := h
  refine (pull_any wk p Fp s n h1 hl).mono ?_
  rintro e w' ⟨F', ⟨a, c, rfl, r1, r2, r3⟩, k1, k3⟩
  exact ⟨a, c, rfl, r1.rd, Both.piped h2 h3 h4 h5 h6 k1 r2 k3⟩
theorem both_len (h : Both w wk p q s L D) : Calls Try.prog 10 #[.pointer (some ⟨p, 0, none⟩)] wk fun e w' => e = .returned (.int .i64 s.length) ∧ wk = w' := by
  obtain ⟨Fp, Kn, Fn, h1, h2, h3, h4, h5, h6⟩ := h
  exact len_any wk p Fp s h1
theorem both_netLen (h : Both w wk p q s L D) : Calls Try.prog 16 #[.pointer (some ⟨q, 0, none⟩)] wk fun e w' => e = .returned (.int .i64 L.length) ∧ wk = w' := by
  obtain ⟨Fp, Kn, Fn, h1, h2, h3, h4, h5, h6⟩ := h
  exact netLen_any wk q Kn Fn L h2
theorem both_netPush {w0 : World} (h : Both w w0 p q s L D) (hk : Touch [] w0 wk) (x : Value) (us : List (Value × List UInt8)) (hx : Rd wk 1 x us.length (us.map (·.1))) (hxo : ∀ g ∈ own x, w0.heap.size ≤ g)
    (hu : ∀ y ∈ us, Rd wk 1 y.1 y.2.length (cb y.2) ∧ (∀ g ∈ own y.1, w0.heap.size ≤ g) ∧ y.2.length ≤ 1099511627776) (hl : L.length + us.length ≤ 1099511627776) :
    Calls Try.prog 12 #[.pointer (some ⟨q, 0, none⟩), x] wk fun e w' => e = .returned (.tuple #[]) ∧ Both w w' p q s (L ++ us.map (·.2)) D := by
  have hlt : ∀ Kn Fn, IsNet w0 q Kn Fn L → ∀ g ∈ Kn, g < w0.heap.size := fun Kn Fn hn g hg => hn.lt g (hn.sub g hg)
  obtain ⟨Fp, Kn, Fn, h1, h2, h3, h4, h5, h6⟩ := h
  have hl2 := hlt Kn Fn h2
  have hh : Both w w0 p q s L D := ⟨Fp, Kn, Fn, h1, h2, h3, h4, h5, h6⟩
  refine (netPush_any wk q Kn Fn L x us (h2.keep hk) hx (fun g hg hm => by have := hxo g hg; have := hl2 g hm; omega) (fun y hy => ⟨(hu y hy).1, fun g hg hm => by have := (hu y hy).2.1 g hg; have := hl2 g hm; omega, (hu y hy).2.2⟩) hl).mono ?_
  rintro e w' ⟨rfl, K', F', k1, k2, k3, k4⟩
  exact ⟨rfl, Both.netted (h1.keep hk) (h2.keep hk) h3 h4 (h5.trans hk (by simp)) (fun d hd => ⟨(h6 d hd).1.touch hk (by simp), fun g hg => let ⟨a, b, c⟩ := (h6 d hd).2 g hg; ⟨a, b, Nat.lt_of_lt_of_le c hk.size⟩⟩) k1 k2 k3 k4⟩
theorem both_netPull (h : Both w wk p q s L D) (k : Nat) (hk : k < L.length) (hL : L.length ≤ 1099511627776) :
    Calls Try.prog 13 #[.pointer (some ⟨q, 0, none⟩), .int .i64 (k : Int)] wk fun e w' => ∃ a c, e = .returned (.tuple #[.slice a (L.getD k []).length c, .bool true]) ∧ Both w w' p q s (L.eraseIdx k) ((.slice a (L.getD k []).length c, L.getD k []) :: D) := by
  obtain ⟨Fp, Kn, Fn, h1, h2, h3, h4, h5, h6⟩ := h
  refine (netPull_yes wk q Kn Fn L k h2 hk hL).mono ?_
  rintro e w' ⟨a, c, F', rfl, r1, r2, k1, k2, k3⟩
  have hsub := h2.sub
  have hlt := h2.lt
  refine ⟨a, c, rfl, Fp, Kn, F', h1.touch k2 (fun g hg hm => (h3 g hg).1 (hsub g hm)), k1, fun g hg => ⟨fun hm => (h3 g hg).1 (k3 g hm), (h3 g hg).2⟩, fun g hg => h4 g (k3 g hg), h5.trans k2 (fun g hg => .inr (h4 g (hsub g hg))), fun d hd => ?_⟩
  rcases List.mem_cons.1 hd with rfl | hd
  · exact ⟨r1.rd, fun g hg => ⟨fun hm => (h3 g hm).1 (r2 g hg).1, (r2 g hg).2, r1.lt g hg⟩⟩
  · exact ⟨(h6 d hd).1.touch k2 (fun g hg => ((h6 d hd).2 g hg).2.1), fun g hg => let ⟨a, b, c⟩ := (h6 d hd).2 g hg; ⟨a, b, Nat.lt_of_lt_of_le c k2.size⟩⟩
theorem both_netDouble (h : Both w wk p q s L D) (k : Nat) (hk : k < L.length) (hL : L.length + 1 ≤ 1099511627776) (hb : (L.getD k []).length ≤ 1099511627776) :
    Calls Try.prog 15 #[.pointer (some ⟨q, 0, none⟩), .int .i64 (k : Int)] wk fun e w' => e = .returned (.bool true) ∧ Both w w' p q s (L ++ [L.getD k []]) D := by
  obtain ⟨Fp, Kn, Fn, h1, h2, h3, h4, h5, h6⟩ := h
  refine (netDouble_yes wk q Kn Fn L k h2 hk hL hb).mono ?_
  rintro e w' ⟨rfl, K', F', k1, k2, k3, k4⟩
  exact ⟨rfl, Both.netted h1 h2 h3 h4 h5 h6 k1 k2 k3 k4⟩
theorem both_netDrop (h : Both w wk p q s L D) (k : Nat) (hk : k < L.length) (hL : L.length ≤ 1099511627776) :
    Calls Try.prog 14 #[.pointer (some ⟨q, 0, none⟩), .int .i64 (k : Int)] wk fun e w' => e = .returned (.bool true) ∧ Both w w' p q s (L.eraseIdx k) D := by
  obtain ⟨Fp, Kn, Fn, h1, h2, h3, h4, h5, h6⟩ := h
  refine (netDrop_yes wk q Kn Fn L k h2 hk hL).mono ?_
  rintro e w' ⟨rfl, F', k1, k2, k3⟩
  exact ⟨rfl, Both.netted h1 h2 h3 h4 h5 h6 k1 k2 (Grow.refl _ _) (fun g hg => .inl (k3 g hg))⟩
theorem both_netDrop_no (h : Both w wk p q s L D) (i : Int) (hi : hasB i L.length = false) :
    Calls Try.prog 14 #[.pointer (some ⟨q, 0, none⟩), .int .i64 i] wk fun e w' => e = .returned (.bool false) ∧ wk = w' := by
  obtain ⟨Fp, Kn, Fn, h1, h2, h3, h4, h5, h6⟩ := h
  exact netDrop_no wk q Kn Fn L i h2 hi
end
theorem rd_at (w : World) (cs : List Value) {n : Nat} (hn : w.heap.size = n) (t : TypeId) (fr : Nat × Nat := (0, 0)) : Rd (w.alloc (.cells cs.toArray t fr)) 1 (.slice (some ⟨n, 0, none⟩) cs.length cs.length) cs.length cs := by
  subst hn
  exact new_rd w t cs _ fr (Nat.le_refl _)
theorem str_at (l : List UInt8) : (str l).toList = l := by
  rw [ByteArray.toList_eq]
  rfl

set_option maxHeartbeats 1000000 in
theorem known_any (w : World) : Calls Try.prog 6 #[] w fun e w' => e = .returned (.bool true) ∧ Touch [] w w' := by
  have kc := fun (w : World) (C : Array Value) (n c : Nat) => Lib.run_convert_bytes_const (P := Try.prog) w 26 5 C n c Try.underlying26 Try.underlying5
  have kc2 : ∀ (w : World) (o : Obj) (C : Array Value) (n c : Nat), (convert 26 26 (.slice (some ⟨w.heap.size + 1, 0, none⟩) n c)).run Try.prog ((w.alloc o).alloc (.cells C 5)) = .ok (.slice (some ⟨w.heap.size + 1, 0, none⟩) n c) ((w.alloc o).alloc (.cells C 5 (C.size, C.size + 1))) := fun w o C n c => by
    have := kc (w.alloc o) C n c
    rw [World.size_alloc] at this
    exact this
  go_enter Try.func6, Try.ntmps6
  go_wp2_with fail
  refine (newPipe_any _).mono ?_
  rintro e w1 ⟨rfl, hP, hT⟩
  have P1 := Lib.hid hP
  have T1 := Lib.hid hT
  clear hP hT
  go_wp2_with fail
  refine (newNet_any _).mono ?_
  rintro e w2 ⟨rfl, hN, hT⟩
  have hB : Both w w2 w.heap.size w1.heap.size [] [] [] := by
    have h1 := P1.out.lt w.heap.size (by simp)
    have h2 := T1.out.size
    exact ⟨_, _, _, P1.out.keep hT, hN, fun g hg => by simp at hg ⊢; omega, fun g hg => by simp at hg; omega, T1.out.trans hT (by simp), fun d hd => by simp at hd⟩
  have B2 := Lib.hid hB
  clear hN hT hB P1 T1
  generalize w.heap.size = p at *
  generalize w1.heap.size = q at *
  go_wp2_with fail
  refine (both_push (B2.out.keep ((Touch.refl [] _).alloc _)) _ [97, 98] (new_rd w2 5 (cb [97, 98]) 2 (2, 3) (Nat.le_refl _)) (by decide)).mono ?_
  rintro e w3 ⟨rfl, hB⟩
  have B3 := Lib.hid hB
  clear hB
  go_wp2_with fail
  refine (both_netPush B3.out ((((Touch.refl [] _).alloc _).alloc _).alloc _) _ [(.slice (some ⟨w3.heap.size, 0, none⟩) 1 1, [120]), (.slice (some ⟨w3.heap.size + 1, 0, none⟩) 1 1, [121])] (rd_at _ _ (by simp) _) (by simp [own]; omega) (fun y hy => ?_) (by simp)).mono ?_
  · simp at hy
    rcases hy with rfl | rfl
    · exact ⟨((new_rd w3 5 (cb [120]) 1 (1, 2) (Nat.le_refl _)).touch (((Touch.refl [] _).alloc _).alloc _) (by simp)), by simp [own], by simp⟩
    · exact ⟨((rd_at (w3.alloc _) (cb [121]) (by simp) 5 (1, 2)).touch ((Touch.refl [] _).alloc _) (by simp)), by simp [own], by simp⟩
  rintro e w4 ⟨rfl, hB⟩
  have B4 : Hid (Both w w4 p q [97, 98] [[120], [121]] []) := Lib.hid hB
  clear hB
  go_wp2_with fail
  refine (show Calls Try.prog 13 #[.pointer (some ⟨q, 0, none⟩), .int .i64 1] w4 _ from both_netPull B4.out 1 (by decide) (by decide)).mono ?_
  rintro e w5 ⟨a, c, rfl, hB⟩
  have B5 : Hid (Both w w5 p q [97, 98] [[120]] [(.slice a 1 c, [121])]) := Lib.hid hB
  clear hB
  go_wp2_with fail
  refine (show Calls Try.prog 9 #[.pointer (some ⟨p, 0, none⟩), .int .i64 1] w5 (fun e w' => ∃ a c', e = .returned (.slice a 1 c') ∧ Rd w' 1 (.slice a 1 c') 1 (cb [97]) ∧ Both w w' p q [98] [[120]] [(.slice _ 1 c, [121])]) from both_pull B5.out 1 (by decide)).mono ?_
  rintro e w6 ⟨a2, c2, rfl, hR, hB⟩
  have B6 := Lib.hid hB
  have kA : (convert 26 9 (.slice a2 1 c2)).run Try.prog w6 = .ok (.string (str [97])) w6 := conv_str _ _ [97] hR
  have kD : (convert 26 9 (.slice a 1 c)).run Try.prog w6 = .ok (.string (str [121])) w6 := by
    obtain ⟨Fp, Kn, Fn, h1, h2, h3, h4, h5, h6⟩ := hB
    exact conv_str _ _ [121] (h6 (.slice a 1 c, [121]) (by simp)).1
  have hA : (str [97]).toList = [97] := str_at _
  have hD : (str [121]).toList = [121] := str_at _
  clear hB hR
  go_wp2_with fail
  refine (show Calls Try.prog 10 #[.pointer (some ⟨p, 0, none⟩)] w6 (fun e w' => e = .returned (.int .i64 1) ∧ w6 = w') from both_len B6.out).mono ?_
  rintro e w7 ⟨rfl, rfl⟩
  go_wp2_with fail
  refine (show Calls Try.prog 15 #[.pointer (some ⟨q, 0, none⟩), .int .i64 0] w6 (fun e w' => e = .returned (.bool true) ∧ Both w w' p q [98] [[120], [120]] [(.slice _ 1 c, [121])]) from both_netDouble B6.out 0 (by decide) (by decide) (by decide)).mono ?_
  rintro e w7 ⟨rfl, hB⟩
  have B7 := Lib.hid hB
  clear hB
  go_wp2_with fail
  refine (show Calls Try.prog 16 #[.pointer (some ⟨q, 0, none⟩)] w7 (fun e w' => e = .returned (.int .i64 2) ∧ w7 = w') from both_netLen B7.out).mono ?_
  rintro e w8 ⟨rfl, rfl⟩
  go_wp2_with fail
  refine (show Calls Try.prog 14 #[.pointer (some ⟨q, 0, none⟩), .int .i64 0] w7 (fun e w' => e = .returned (.bool true) ∧ Both w w' p q [98] [[120]] [(.slice _ 1 c, [121])]) from both_netDrop B7.out 0 (by decide) (by decide)).mono ?_
  rintro e w8 ⟨rfl, hB⟩
  have B8 := Lib.hid hB
  clear hB
  go_wp2_with fail
  refine (both_netDrop_no B8.out 5 (by decide)).mono ?_
  rintro e w9 ⟨rfl, rfl⟩
  go_wp2_with fail
  go_ret
  obtain ⟨Fp, Kn, Fn, h1, h2, h3, h4, h5, h6⟩ := B8.out
  exact ⟨rfl, h5⟩
end Go.Proofs.Ytaklbobmbobcaaa
