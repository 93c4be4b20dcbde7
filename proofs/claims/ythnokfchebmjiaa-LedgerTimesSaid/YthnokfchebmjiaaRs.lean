/- The contract of the document's Send. Conditions: the ledger is in order; the packet's numbers are small; it is behind all others. -/
import Derived.Test.YthnokfchebmjiaaOwn
namespace Go.Proofs.Ythnokfchebmjiaa
open Go.RowKit

/-- What a method makes of the document's ledger. -/
def StepR (w : World) (p : Nat) (F : List Nat) (ρ : RL) (w' : World) : Prop := ∃ F', IsR w' p F' ρ ∧ Touch F w w' ∧ ∀ g ∈ F', g ∈ F ∨ w.heap.size ≤ g
def sendR (ρ : RL) (s : Pkt) : RL := { ρ with sent := ρ.sent ++ [s], opn := ρ.opn ++ [true] }
theorem sendR_ok {ρ : RL} (h : ρ.Ok) {s : Pkt} (hf : ρ.sent.length < 100000) (h1 : s.pn ≤ 4611686018427387903) (h2 : s.when_ ≤ 1099511627776) (h3 : s.size ≤ 1099511627776) : (sendR ρ s).Ok := by
  refine ⟨?_, ?_, h.top, h.times, fun t ht => ?_⟩
  · show (ρ.opn ++ [true]).length = (ρ.sent ++ [s]).length
    have := h.ln
    simp
    omega
  · show (ρ.sent ++ [s]).length ≤ _
    simp
    omega
  · rcases List.mem_append.1 (show t ∈ ρ.sent ++ [s] from ht) with g | g
    · exact h.each t g
    · simp at g
      subst g
      exact ⟨h1, h2, h3⟩
/-- The ledger as things of its own. -/
theorem IsR.own {w : World} {p : Nat} {F : List Nat} {ρ : RL} {aS aO : Option Addr} {cS cO : Nat} (h1 : IsBlk w p (rcells ρ aS cS aO cO) 68) (h2 : Sl w 30 4 (.slice aS ρ.sent.length cS) ρ.sent.length (pk4 ρ.sent)) (h3 : Sl w 4 1 (.slice aO ρ.sent.length cO) ρ.sent.length (blv ρ.opn))
    (hF : F = p :: (own (.slice aS ρ.sent.length cS) ++ own (.slice aO ρ.sent.length cO))) (d1 : p ∉ own (.slice aS ρ.sent.length cS)) (d2 : p ∉ own (.slice aO ρ.sent.length cO)) (d3 : ∀ g ∈ own (.slice aS ρ.sent.length cS), g ∉ own (.slice aO ρ.sent.length cO)) :
    Own w F w [tK p (rcells ρ aS cS aO cO) 68, tV 30 4 (.slice aS ρ.sent.length cS) ρ.sent.length (pk4 ρ.sent), tV 4 1 (.slice aO ρ.sent.length cO) ρ.sent.length (blv ρ.opn)] := by
  subst hF
  refine ⟨fun T hT => ?_, ?_, Touch.refl _ _⟩
  · simp only [List.mem_cons, List.not_mem_nil, or_false] at hT
    rcases hT with rfl | rfl | rfl
    · exact ⟨h1, fun g hg => .inl (by simp [tK] at hg; simp [hg])⟩
    · exact ⟨h2, fun g hg => .inl (by simp [tV] at hg; simp [hg])⟩
    · exact ⟨h3, fun g hg => .inl (by simp [tV] at hg; simp [hg])⟩
  · simp only [List.pairwise_cons, List.mem_cons, List.not_mem_nil, or_false, forall_eq_or_imp, forall_eq]
    refine ⟨⟨fun g hg hm => ?_, fun g hg hm => ?_⟩, d3, by simp⟩
    · simp [tK] at hg
      subst hg
      exact d1 hm
    · simp [tK] at hg
      subst hg
      exact d2 hm
/-- The things make the ledger. -/
theorem Own.isR {w wk : World} {p n : Nat} {F : List Nat} {ρ : RL} {L : List Thing} {aS aO : Option Addr} {cS cO : Nat} (h : Own w F wk (tK p (rcells ρ aS cS aO cO) 68 :: tV 30 4 (.slice aS n cS) n (pk4 ρ.sent) :: tV 4 1 (.slice aO n cO) n (blv ρ.opn) :: L)) (hn : n = ρ.sent.length) (hok : ρ.Ok) : StepR w p F ρ wk := by
  subst hn
  obtain ⟨h1, h2, h3⟩ := h
  obtain ⟨p1, p2⟩ := List.pairwise_cons.1 h2
  obtain ⟨p3, p4⟩ := List.pairwise_cons.1 p2
  have q0 := h1 _ (List.mem_cons_self ..)
  have q1 := h1 _ (List.mem_cons_of_mem _ (List.mem_cons_self ..))
  have q2 := h1 _ (List.mem_cons_of_mem _ (List.mem_cons_of_mem _ (List.mem_cons_self ..)))
  refine ⟨p :: (own (.slice aS ρ.sent.length cS) ++ own (.slice aO ρ.sent.length cO)), ⟨aS, cS, aO, cO, q0.1, q1.1, q2.1, rfl, fun hm => p1 _ (List.mem_cons_self ..) p (by simp [tK]) hm, fun hm => p1 _ (List.mem_cons_of_mem _ (List.mem_cons_self ..)) p (by simp [tK]) hm, p3 _ (List.mem_cons_self ..), hok⟩, h3, fun g hg => ?_⟩
  simp only [List.mem_cons, List.mem_append] at hg
  rcases hg with rfl | hg | hg
  · exact q0.2 g (by simp [tK])
  · exact q1.2 g hg
  · exact q2.2 g hg
theorem rd_pkt (w : World) (s : Pkt) : Rd (w.alloc (.cells #[.int .u64 (s.pn : Int), .int .u64 (s.when_ : Int), .int .i64 (s.size : Int), .bool s.eager] 30)) 4 (.slice (some ⟨w.heap.size, 0, none⟩) 1 1) 1 (pk4 [s]) := by
  refine ⟨rfl, .inr ⟨w.heap.size, 0, 1, rfl, by omega, fun _ => by simp, fun j hj => ?_⟩⟩
  rw [Nat.zero_add]
  exact (IsBlk.new w (pcells s) 30).cell j
theorem rd_true (w : World) : Rd (w.alloc (.cells #[.bool true] 4)) 1 (.slice (some ⟨w.heap.size, 0, none⟩) 1 1) 1 (blv [true]) := by
  refine ⟨rfl, .inr ⟨w.heap.size, 0, 1, rfl, by omega, fun _ => by simp, fun j hj => ?_⟩⟩
  rw [Nat.zero_add]
  exact (IsBlk.new w (blv [true]) 4).cell j
theorem boxC {W : World} {b : Nat} {s : Pkt} (h : IsBlk W b (pcells s) 30) : (W.cell? ⟨b, 0, none⟩ = some (.int .u64 (s.pn : Int)) ∧ W.cell? ⟨b, 1, none⟩ = some (.int .u64 (s.when_ : Int)) ∧ W.cell? ⟨b, 2, none⟩ = some (.int .i64 (s.size : Int)) ∧ W.cell? ⟨b, 3, none⟩ = some (.bool s.eager)) ∧ b < W.heap.size :=
  ⟨⟨h.cell 0, h.cell 1, h.cell 2, h.cell 3⟩, h.lt⟩
theorem hdC {W : World} {p : Nat} {ρ : RL} {aS aO : Option Addr} {cS cO : Nat} (h : IsBlk W p (rcells ρ aS cS aO cO) 68) : (W.cell? ⟨p, 0, none⟩ = some (.slice aS ρ.sent.length cS) ∧ W.cell? ⟨p, 1, none⟩ = some (.slice aO ρ.sent.length cO)) ∧ p < W.heap.size := ⟨⟨h.cell 0, h.cell 1⟩, h.lt⟩
theorem Own.tail {w wk : World} {F : List Nat} {T : Thing} {L : List Thing} (h : Own w F wk (T :: L)) : Own w F wk L := ⟨fun S hS => h.each S (by simp [hS]), (List.pairwise_cons.1 h.pw).2, h.tch⟩
theorem sendR_cells (ρ : RL) (s : Pkt) (a3 a4 : Option Addr) (c3 c4 : Nat) (aS aO : Option Addr) (cS cO : Nat) : rcells (sendR ρ s) a3 c3 a4 c4 = ((rcells ρ aS cS aO cO).set 0 (.slice a3 (ρ.sent.length + 1) c3)).set 1 (.slice a4 (ρ.sent.length + 1) c4) := by
  have : (sendR ρ s).sent.length = ρ.sent.length + 1 := by simp [sendR]
  unfold rcells
  rw [this]
  rfl
theorem apart {w wk : World} {F : List Nat} {L : List Thing} (h : Own w F wk L) {i j : Nat} {S T : Thing} (hij : i < j ∨ j < i) (hi : L[i]? = some S) (hj : L[j]? = some T) : ∀ g ∈ T.B, g ∉ S.B := by
  obtain ⟨li, ei⟩ := List.getElem?_eq_some_iff.1 hi
  obtain ⟨lj, ej⟩ := List.getElem?_eq_some_iff.1 hj
  have hp := List.pairwise_iff_getElem.1 h.pw
  intro g hg hm
  rcases hij with h | h
  · have := hp i j li lj h
    rw [ei, ej] at this
    exact this g hm hg
  · have := hp j i lj li h
    rw [ei, ej] at this
    exact this g hg hm

set_option maxHeartbeats 8000000 in
set_option maxRecDepth 100000 in
theorem sendR_any (w : World) (p : Nat) (F : List Nat) (ρ : RL) (s : Pkt) (h : IsR w p F ρ) (hs : s.pn ≤ 4611686018427387903) (hw1 : s.when_ ≤ 1099511627776) (hw2 : s.size ≤ 1099511627776) (ht : ρ.sent.length < 100000) (hl : ∀ t ∈ ρ.sent, t.pn < s.pn) :
    Calls Try.prog 11 #[.pointer (some ⟨p, 0, none⟩), .agg #[.int .u64 (s.pn : Int), .int .u64 (s.when_ : Int), .int .i64 (s.size : Int), .bool s.eager]] w fun e w' => e = .returned (.int .i64 0) ∧ StepR w p F (sendR ρ s) w' := by
  have HNO := Lib.hid (sendR_ok h.ok ht hs hw1 hw2)
  obtain ⟨aS, cS, aO, cO, h1, h2, h3, hF, d1, d2, d3, hok⟩ := h
  have HW := Lib.hid ((IsR.own h1 h2 h3 hF d1 d2 d3).alloc (pcells s) 30)
  have H1 := Lib.hid h1
  have H2 := Lib.hid h2
  have HL := Lib.hid hl
  have c0 := h1.cell 0
  have hpl := h1.lt
  simp only [rcells, List.getElem?_cons_zero] at c0
  clear h1 h2 h3 hF d1 d2 d3 hok hl
  go_enter Try.func11, Try.ntmps11
  go_wp2_with fail
  obtain ⟨bx, hbx⟩ : ∃ bx, bx = w.heap.size := ⟨_, rfl⟩
  obtain ⟨W, hW⟩ : ∃ W, W = w.alloc (.cells #[.int .u64 (s.pn : Int), .int .u64 (s.when_ : Int), .int .i64 (s.size : Int), .bool s.eager] 30) := ⟨_, rfl⟩
  have HW0 : Hid (Own w F W [tK bx (pcells s) 30, tK p (rcells ρ aS cS aO cO) 68, tV 30 4 (.slice aS ρ.sent.length cS) ρ.sent.length (pk4 ρ.sent), tV 4 1 (.slice aO ρ.sent.length cO) ρ.sent.length (blv ρ.opn)]) := Lib.hid (by rw [hW, hbx]; exact HW.out)
  rw [← hW, ← hbx]
  clear hW hbx HW c0 hpl H1 H2
  have hbk := HW0.out.get (T := tK bx (pcells s) 30) (by simp)
  have hpk := HW0.out.get (T := tK p (rcells ρ aS cS aO cO) 68) (by simp)
  have hsk := HW0.out.get (T := tV 30 4 (.slice aS ρ.sent.length cS) ρ.sent.length (pk4 ρ.sent)) (by simp)
  have b0 := IsBlk.cell hbk 0
  have bl := IsBlk.lt hbk
  have c0 := IsBlk.cell hpk 0
  have cl := IsBlk.lt hpk
  simp only [rcells, pcells, List.getElem?_cons_zero] at b0 c0
  have z1 : decide ((4611686018427387903 : Int) < (s.pn : Int)) = false := decide_eq_false (by omega)
  by_cases hn0 : ρ.sent.length = 0
  · have z2 : decide (0 < ρ.sent.length) = false := decide_eq_false (by omega)
    clear hn0
    go_quiet (fail)
    obtain ⟨V, hV⟩ : ∃ V, V = W.drewN nq := ⟨_, rfl⟩
    rw [← hV]
    have HV := Lib.hid (HW0.out.keep (w' := V) (by rw [hV]; exact (Touch.refl _ _).drewN _))
    clear hV b0 bl c0 cl
    go_upto_region 4 with (fail)
    have HWs := Lib.hid (HV.out.keep (w' := V.drew) ((Touch.refl _ _).drew))
    refine wp_region_hold (fun w' => (w'.cell? ⟨bx, 0, none⟩ = some (.int .u64 (s.pn : Int)) ∧ w'.cell? ⟨bx, 1, none⟩ = some (.int .u64 (s.when_ : Int)) ∧ w'.cell? ⟨bx, 2, none⟩ = some (.int .i64 (s.size : Int)) ∧ w'.cell? ⟨bx, 3, none⟩ = some (.bool s.eager)) ∧ bx < w'.heap.size) (fun w' => (w'.cell? ⟨p, 0, none⟩ = some (.slice aS ρ.sent.length cS) ∧ w'.cell? ⟨p, 1, none⟩ = some (.slice aO ρ.sent.length cO)) ∧ p < w'.heap.size) [17, 20] [false, false, false, false, false, false, false, false, false, false, false, false, false, false, false, false, false, false, false, false, false] (by kernel_rfl) (by kernel_rfl) (boxC (HWs.out.get (T := tK bx (pcells s) 30) (by simp))) (hdC (HWs.out.get (T := tK p (rcells ρ aS cS aO cO) 68) (by simp))) (fun hS => ?_)
    refine takeG (i := 0) (v := ?_) rfl (by kernel_rfl) (by kernel_rfl) (by kernel_rfl) (by kernel_rfl) (fun _ _ _ h => h) (Or.inl ⟨by rfl, ?_⟩) hS (fun hT => ?_)
    rotate_left
    · intro w hC; (try dsimp only at hC); go_simp; try with_reducible rfl
    clear hS
    have hS := hT
    clear hT
    simp only [Act.put, List.setIfInBounds_toArray, List.set_cons_zero] at hS ⊢
    refine takeG (i := 1) (v := ?_) rfl (by kernel_rfl) (by kernel_rfl) (by kernel_rfl) (by kernel_rfl) (fun _ _ _ h => h) (Or.inl ⟨by rfl, ?_⟩) hS (fun hT => ?_)
    rotate_left
    · intro w hC; (try dsimp only at hC); go_simp; try with_reducible rfl
    clear hS
    have hS := hT
    clear hT
    simp only [Act.put, List.setIfInBounds_toArray, List.set_cons_zero, List.set_cons_succ] at hS ⊢
    refine takeG (i := 2) (v := ?_) rfl (by kernel_rfl) (by kernel_rfl) (by kernel_rfl) (by kernel_rfl) (fun _ _ _ h => h) (Or.inl ⟨by rfl, ?_⟩) hS (fun hT => ?_)
    rotate_left
    · intro w hC; (try dsimp only at hC); go_simp; try with_reducible rfl
    clear hS
    have hS := hT
    clear hT
    simp only [Act.put, List.setIfInBounds_toArray, List.set_cons_zero, List.set_cons_succ] at hS ⊢
    refine takeG (i := 3) (v := ?_) rfl (by kernel_rfl) (by kernel_rfl) (by kernel_rfl) (by kernel_rfl) (fun _ _ _ h => h) (Or.inl ⟨by rfl, ?_⟩) hS (fun hT => ?_)
    rotate_left
    · intro w hC; (try dsimp only at hC); go_simp; try with_reducible rfl
    clear hS
    have hS := hT
    clear hT
    simp only [Act.put, List.setIfInBounds_toArray, List.set_cons_zero, List.set_cons_succ] at hS ⊢
    refine takeG (i := 4) (v := ?_) rfl (by kernel_rfl) (by kernel_rfl) (by kernel_rfl) (by kernel_rfl) (fun _ _ _ h => h) (Or.inl ⟨by rfl, ?_⟩) hS (fun hT => ?_)
    rotate_left
    · intro w hC; (try dsimp only at hC); go_simp; try with_reducible rfl
    clear hS
    have hS := hT
    clear hT
    simp only [Act.put, List.setIfInBounds_toArray, List.set_cons_zero, List.set_cons_succ] at hS ⊢
    refine takeG1 (i := 5) (v := ?_) rfl (by kernel_rfl) (by kernel_rfl) (by kernel_rfl) (by kernel_rfl) (by kernel_rfl) (by kernel_rfl) (fun _ _ _ h => h) (Or.inl ⟨by rfl, ?_⟩) hS (fun hT => ?_)
    rotate_left
    · intro w hC; (try dsimp only at hC); go_simp; try with_reducible rfl
    clear hS
    have hS := hT
    clear hT
    simp only [Act.put, List.setIfInBounds_toArray, List.set_cons_zero, List.set_cons_succ] at hS ⊢
    refine takeG (i := 6) (v := ?_) rfl (by kernel_rfl) (by kernel_rfl) (by kernel_rfl) (by kernel_rfl) (fun _ _ _ h => h) (Or.inl ⟨by rfl, ?_⟩) hS (fun hT => ?_)
    rotate_left
    · intro w hC; (try dsimp only at hC); go_simp; try with_reducible rfl
    clear hS
    have hS := hT
    clear hT
    simp only [Act.put, List.setIfInBounds_toArray, List.set_cons_zero, List.set_cons_succ] at hS ⊢
    refine takeG (i := 9) (v := ?_) rfl (by kernel_rfl) (by kernel_rfl) (by kernel_rfl) (by kernel_rfl) (fun _ _ _ h => h) (Or.inl ⟨by rfl, ?_⟩) hS (fun hT => ?_)
    rotate_left
    · intro w hC; (try dsimp only at hC); go_simp; try with_reducible rfl
    clear hS
    have hS := hT
    clear hT
    simp only [Act.put, List.setIfInBounds_toArray, List.set_cons_zero, List.set_cons_succ] at hS ⊢
    refine takeG (i := 10) (v := ?_) rfl (by kernel_rfl) (by kernel_rfl) (by kernel_rfl) (by kernel_rfl) (fun _ _ _ h => h) (Or.inl ⟨by rfl, ?_⟩) hS (fun hT => ?_)
    rotate_left
    · intro w hC; (try dsimp only at hC); go_simp; try with_reducible rfl
    clear hS
    have hS := hT
    clear hT
    simp only [Act.put, List.setIfInBounds_toArray, List.set_cons_zero, List.set_cons_succ] at hS ⊢
    refine takeG (i := 11) (v := ?_) rfl (by kernel_rfl) (by kernel_rfl) (by kernel_rfl) (by kernel_rfl) (fun _ _ _ h => h) (Or.inl ⟨by rfl, ?_⟩) hS (fun hT => ?_)
    rotate_left
    · intro w hC; (try dsimp only at hC); go_simp; try with_reducible rfl
    clear hS
    have hS := hT
    clear hT
    simp only [Act.put, List.setIfInBounds_toArray, List.set_cons_zero, List.set_cons_succ] at hS ⊢
    refine takeG1 (i := 12) (v := ?_) rfl (by kernel_rfl) (by kernel_rfl) (by kernel_rfl) (by kernel_rfl) (by kernel_rfl) (by kernel_rfl) (fun _ _ _ h => h) (Or.inl ⟨by rfl, ?_⟩) hS (fun hT => ?_)
    rotate_left
    · intro w hC; (try dsimp only at hC); go_simp; try with_reducible rfl
    clear hS
    have hS := hT
    clear hT
    simp only [Act.put, List.setIfInBounds_toArray, List.set_cons_zero, List.set_cons_succ] at hS ⊢
    refine twoG (i := 7) (j := 13) (by kernel_rfl) rfl rfl (fun K hK => ?_) (fun K hK => ?_)
    · go_simp
      have HW1 := Lib.hid (HWs.out.alloc (pcells s) 30)
      have HR1 := Lib.hid (rd_pkt V.drew s)
      refine hK.out _ _ ⟨boxC (HW1.out.get (T := tK bx (pcells s) 30) (by simp)), fun hu => ?_⟩ (fun hT => ?_)
      · exact hdC (HW1.out.get (T := tK p (rcells ρ aS cS aO cO) 68) (by simp))
      clear hS
      have hS := hT
      clear hT
      simp only [List.setIfInBounds_toArray, List.set_cons_zero, List.set_cons_succ] at hS ⊢
      clear hK K
      refine twoG (i := 8) (j := 13) (by kernel_rfl) rfl rfl (fun K hK => ?_) (fun K hK => ?_)
      · obtain ⟨i0, hi0, hz0, hz1, hz2⟩ := info_parts info30
        have HSL := Lib.hid (show Sl _ 30 4 (.slice aS ρ.sent.length cS) ρ.sent.length (pk4 ρ.sent) from HW1.out.get (T := tV 30 4 (.slice aS ρ.sent.length cS) ρ.sent.length (pk4 ρ.sent)) (by simp))
        refine step_append_sl _ rfl _ _ 65 rfl 30 i0 _ 4 32 und65 hi0 hz0 hz1 hz2 rfl (by omega) (.slice aS ρ.sent.length cS) ρ.sent.length (pk4 ρ.sent) (by simp [Act.eval]) HSL.out _ 1 (pk4 [s]) (by simp [Act.eval]) HR1.out (pk4_one _) (by unfold maxLen; omega) (by omega) fun a3 c3 w3 k1 k2 k3 k4 => ?_
        have HW2 := Lib.hid (HW1.out.append (i := 3) rfl k1 k2 k3)
        clear k1 k2 k3 k4
        refine hK.out _ _ ⟨boxC (HW2.out.get (T := tK bx (pcells s) 30) (by simp)), fun hu => ?_⟩ (fun hT => ?_)
        · exact hdC (HW2.out.get (T := tK p (rcells ρ aS cS aO cO) 68) (by simp))
        clear hS
        have hS := hT
        clear hT
        simp only [Act.put, List.setIfInBounds_toArray, List.set_cons_zero, List.set_cons_succ] at hS ⊢
        clear hK K
        refine oneG (i := 13) (by kernel_rfl) rfl (fun K hK => ?_)
        go_simp
        have HW3 := Lib.hid (HW2.out.alloc [.bool true] 4)
        have HR2 := Lib.hid (rd_true w3)
        refine hK.out _ _ ⟨boxC (HW3.out.get (T := tK bx (pcells s) 30) (by simp)), fun hu => ?_⟩ (fun hT => ?_)
        · exact hdC (HW3.out.get (T := tK p (rcells ρ aS cS aO cO) 68) (by simp))
        clear hS
        have hS := hT
        clear hT
        simp only [List.setIfInBounds_toArray, List.set_cons_zero, List.set_cons_succ] at hS ⊢
        clear hK K
        refine oneG (i := 14) (by kernel_rfl) rfl (fun K hK => ?_)
        obtain ⟨j0, hj0, hy0, hy1, hy2⟩ := info_parts info4
        have HOL := Lib.hid (show Sl _ 4 1 (.slice aO ρ.sent.length cO) ρ.sent.length (blv ρ.opn) from HW3.out.get (T := tV 4 1 (.slice aO ρ.sent.length cO) ρ.sent.length (blv ρ.opn)) (by simp))
        refine step_append_sl _ rfl _ _ 66 rfl 4 j0 _ 1 1 und66 hj0 hy0 hy1 hy2 rfl (by omega) (.slice aO ρ.sent.length cO) ρ.sent.length (blv ρ.opn) (by simp [Act.eval]) HOL.out _ 1 (blv [true]) (by simp [Act.eval]) HR2.out (blv_one _) (by unfold maxLen; omega) (by omega) fun a4 c4 w4 k1 k2 k3 k4 => ?_
        have HW4 := Lib.hid (HW3.out.append (i := 5) rfl k1 k2 k3)
        clear k1 k2 k3 k4
        refine hK.out _ _ ⟨boxC (HW4.out.get (T := tK bx (pcells s) 30) (by simp)), fun hu => ?_⟩ (fun hT => ?_)
        · exact hdC (HW4.out.get (T := tK p (rcells ρ aS cS aO cO) 68) (by simp))
        clear hS
        have hS := hT
        clear hT
        simp only [Act.put, List.setIfInBounds_toArray, List.set_cons_zero, List.set_cons_succ] at hS ⊢
        clear hK K
        refine oneG (i := 15) (by kernel_rfl) rfl (fun K hK => ?_)
        go_simp
        refine hK.out _ _ ⟨boxC (HW4.out.get (T := tK bx (pcells s) 30) (by simp)), fun hu => ?_⟩ (fun hT => ?_)
        · exact hdC (HW4.out.get (T := tK p (rcells ρ aS cS aO cO) 68) (by simp))
        clear hS
        have hS := hT
        clear hT
        simp only [List.setIfInBounds_toArray, List.set_cons_zero, List.set_cons_succ] at hS ⊢
        clear hK K
        refine oneG (i := 16) (by kernel_rfl) rfl (fun K hK => ?_)
        go_simp
        refine hK.out _ _ ⟨boxC (HW4.out.get (T := tK bx (pcells s) 30) (by simp)), fun hu => ?_⟩ (fun hT => ?_)
        · exact hdC (HW4.out.get (T := tK p (rcells ρ aS cS aO cO) 68) (by simp))
        clear hS
        have hS := hT
        clear hT
        simp only [List.setIfInBounds_toArray, List.set_cons_zero, List.set_cons_succ] at hS ⊢
        clear hK K
        refine oneG (i := 17) (by kernel_rfl) rfl (fun K hK => ?_)
        have f0 := (HW4.out.get (T := tK p (rcells ρ aS cS aO cO) 68) (by simp)).frozen 0
        have fl := (HW4.out.get (T := tK p (rcells ρ aS cS aO cO) 68) (by simp)).lt
        have e0 := (HW4.out.get (T := tK p (rcells ρ aS cS aO cO) 68) (by simp)).cell 0
        simp only [rcells, List.getElem?_cons_zero] at e0
        go_simp
        have HWa := Lib.hid (HW4.out.set (i := 3) rfl 0 (.slice a3 (ρ.sent.length + 1) c3))
        refine hK.out _ _ ⟨boxC (HWa.out.get (T := tK bx (pcells s) 30) (by simp)), fun hu => ?_⟩ (fun hT => ?_)
        · exact absurd hu (by decide)
        clear hS
        have hS := hT
        clear hT
        simp only [List.setIfInBounds_toArray, List.set_cons_zero, List.set_cons_succ] at hS ⊢
        clear hK K f0 fl e0
        refine oneG (i := 18) (by kernel_rfl) rfl (fun K hK => ?_)
        go_simp
        refine hK.out _ _ ⟨boxC (HWa.out.get (T := tK bx (pcells s) 30) (by simp)), fun hu => ?_⟩ (fun hT => ?_)
        · exact absurd hu (by decide)
        clear hS
        have hS := hT
        clear hT
        simp only [List.setIfInBounds_toArray, List.set_cons_zero, List.set_cons_succ] at hS ⊢
        clear hK K
        refine oneG (i := 19) (by kernel_rfl) rfl (fun K hK => ?_)
        go_simp
        refine hK.out _ _ ⟨boxC (HWa.out.get (T := tK bx (pcells s) 30) (by simp)), fun hu => ?_⟩ (fun hT => ?_)
        · exact absurd hu (by decide)
        clear hS
        have hS := hT
        clear hT
        simp only [List.setIfInBounds_toArray, List.set_cons_zero, List.set_cons_succ] at hS ⊢
        clear hK K
        refine oneG (i := 20) (by kernel_rfl) rfl (fun K hK => ?_)
        have f1 := (HWa.out.get (T := tK p ((rcells ρ aS cS aO cO).set 0 (.slice a3 (ρ.sent.length + 1) c3)) 68) (by simp)).frozen 1
        have fl := (HWa.out.get (T := tK p ((rcells ρ aS cS aO cO).set 0 (.slice a3 (ρ.sent.length + 1) c3)) 68) (by simp)).lt
        have e1 := (HWa.out.get (T := tK p ((rcells ρ aS cS aO cO).set 0 (.slice a3 (ρ.sent.length + 1) c3)) 68) (by simp)).cell 1
        simp only [rcells, List.set_cons_zero, List.getElem?_cons_zero, List.getElem?_cons_succ] at e1
        go_simp
        have HWb := Lib.hid (HWa.out.set (i := 3) rfl 1 (.slice a4 (ρ.sent.length + 1) c4))
        refine hK.out _ _ ⟨boxC (HWb.out.get (T := tK bx (pcells s) 30) (by simp)), fun hu => ?_⟩ (fun hT => ?_)
        · exact absurd hu (by decide)
        clear hS
        have hS := hT
        clear hT
        simp only [List.setIfInBounds_toArray, List.set_cons_zero, List.set_cons_succ] at hS ⊢
        clear hK K f1 fl e1
        refine wpAnyG_done (by kernel_rfl) ?_ _
        clear hS
        go_wp2_with fail
        go_ret
        refine ⟨rfl, ?_⟩
        have hz := HWb.out
        have hz := hz.tail
        have hz := hz.tail
        have hz := hz.tail
        exact Own.isR (ρ := sendR ρ s) (n := ρ.sent.length + 1) (L := []) (by rw [show pk4 (sendR ρ s).sent = pk4 ρ.sent ++ pk4 [s] from pk4_append _ _, show blv (sendR ρ s).opn = blv ρ.opn ++ blv [true] from blv_append _ _, sendR_cells]; exact hz) (by simp [sendR]) HNO.out
      · go_simp
        have HW5 := Lib.hid (HW1.out.alloc [.bool true] 4)
        have HR2 := Lib.hid (rd_true (V.drew.alloc (.cells #[.int .u64 (s.pn : Int), .int .u64 (s.when_ : Int), .int .i64 (s.size : Int), .bool s.eager] 30)))
        have HR1 := Lib.hid (HR1.out.touch ((Touch.refl [] (V.drew.alloc (.cells #[.int .u64 (s.pn : Int), .int .u64 (s.when_ : Int), .int .i64 (s.size : Int), .bool s.eager] 30))).alloc (.cells #[.bool true] 4)) (by simp))
        refine hK.out _ _ ⟨boxC (HW5.out.get (T := tK bx (pcells s) 30) (by simp)), fun hu => ?_⟩ (fun hT => ?_)
        · exact hdC (HW5.out.get (T := tK p (rcells ρ aS cS aO cO) 68) (by simp))
        clear hS
        have hS := hT
        clear hT
        simp only [List.setIfInBounds_toArray, List.set_cons_zero, List.set_cons_succ] at hS ⊢
        clear hK K
        refine oneG (i := 8) (by kernel_rfl) rfl (fun K hK => ?_)
        obtain ⟨i0, hi0, hz0, hz1, hz2⟩ := info_parts info30
        have HSL := Lib.hid (show Sl _ 30 4 (.slice aS ρ.sent.length cS) ρ.sent.length (pk4 ρ.sent) from HW5.out.get (T := tV 30 4 (.slice aS ρ.sent.length cS) ρ.sent.length (pk4 ρ.sent)) (by simp))
        refine step_append_sl _ rfl _ _ 65 rfl 30 i0 _ 4 32 und65 hi0 hz0 hz1 hz2 rfl (by omega) (.slice aS ρ.sent.length cS) ρ.sent.length (pk4 ρ.sent) (by simp [Act.eval]) HSL.out _ 1 (pk4 [s]) (by simp [Act.eval]) HR1.out (pk4_one _) (by unfold maxLen; omega) (by omega) fun a3 c3 w3 k1 k2 k3 k4 => ?_
        have HW6 := Lib.hid (HW5.out.append (i := 4) rfl k1 k2 k3)
        have HR2 := Lib.hid (HR2.out.touch k2 (apart HW5.out (i := 4) (j := 0) (by decide) rfl rfl))
        clear k1 k2 k3 k4
        refine hK.out _ _ ⟨boxC (HW6.out.get (T := tK bx (pcells s) 30) (by simp)), fun hu => ?_⟩ (fun hT => ?_)
        · exact hdC (HW6.out.get (T := tK p (rcells ρ aS cS aO cO) 68) (by simp))
        clear hS
        have hS := hT
        clear hT
        simp only [Act.put, List.setIfInBounds_toArray, List.set_cons_zero, List.set_cons_succ] at hS ⊢
        clear hK K
        refine oneG (i := 14) (by kernel_rfl) rfl (fun K hK => ?_)
        obtain ⟨j0, hj0, hy0, hy1, hy2⟩ := info_parts info4
        have HOL := Lib.hid (show Sl _ 4 1 (.slice aO ρ.sent.length cO) ρ.sent.length (blv ρ.opn) from HW6.out.get (T := tV 4 1 (.slice aO ρ.sent.length cO) ρ.sent.length (blv ρ.opn)) (by simp))
        refine step_append_sl _ rfl _ _ 66 rfl 4 j0 _ 1 1 und66 hj0 hy0 hy1 hy2 rfl (by omega) (.slice aO ρ.sent.length cO) ρ.sent.length (blv ρ.opn) (by simp [Act.eval]) HOL.out _ 1 (blv [true]) (by simp [Act.eval]) HR2.out (blv_one _) (by unfold maxLen; omega) (by omega) fun a4 c4 w4 k1 k2 k3 k4 => ?_
        have HW7 := Lib.hid (HW6.out.append (i := 5) rfl k1 k2 k3)
        clear k1 k2 k3 k4
        refine hK.out _ _ ⟨boxC (HW7.out.get (T := tK bx (pcells s) 30) (by simp)), fun hu => ?_⟩ (fun hT => ?_)
        · exact hdC (HW7.out.get (T := tK p (rcells ρ aS cS aO cO) 68) (by simp))
        clear hS
        have hS := hT
        clear hT
        simp only [Act.put, List.setIfInBounds_toArray, List.set_cons_zero, List.set_cons_succ] at hS ⊢
        clear hK K
        refine oneG (i := 15) (by kernel_rfl) rfl (fun K hK => ?_)
        go_simp
        refine hK.out _ _ ⟨boxC (HW7.out.get (T := tK bx (pcells s) 30) (by simp)), fun hu => ?_⟩ (fun hT => ?_)
        · exact hdC (HW7.out.get (T := tK p (rcells ρ aS cS aO cO) 68) (by simp))
        clear hS
        have hS := hT
        clear hT
        simp only [List.setIfInBounds_toArray, List.set_cons_zero, List.set_cons_succ] at hS ⊢
        clear hK K
        refine oneG (i := 16) (by kernel_rfl) rfl (fun K hK => ?_)
        go_simp
        refine hK.out _ _ ⟨boxC (HW7.out.get (T := tK bx (pcells s) 30) (by simp)), fun hu => ?_⟩ (fun hT => ?_)
        · exact hdC (HW7.out.get (T := tK p (rcells ρ aS cS aO cO) 68) (by simp))
        clear hS
        have hS := hT
        clear hT
        simp only [List.setIfInBounds_toArray, List.set_cons_zero, List.set_cons_succ] at hS ⊢
        clear hK K
        refine oneG (i := 17) (by kernel_rfl) rfl (fun K hK => ?_)
        have f0 := (HW7.out.get (T := tK p (rcells ρ aS cS aO cO) 68) (by simp)).frozen 0
        have fl := (HW7.out.get (T := tK p (rcells ρ aS cS aO cO) 68) (by simp)).lt
        have e0 := (HW7.out.get (T := tK p (rcells ρ aS cS aO cO) 68) (by simp)).cell 0
        simp only [rcells, List.getElem?_cons_zero] at e0
        go_simp
        have HWa := Lib.hid (HW7.out.set (i := 3) rfl 0 (.slice a3 (ρ.sent.length + 1) c3))
        refine hK.out _ _ ⟨boxC (HWa.out.get (T := tK bx (pcells s) 30) (by simp)), fun hu => ?_⟩ (fun hT => ?_)
        · exact absurd hu (by decide)
        clear hS
        have hS := hT
        clear hT
        simp only [List.setIfInBounds_toArray, List.set_cons_zero, List.set_cons_succ] at hS ⊢
        clear hK K f0 fl e0
        refine oneG (i := 18) (by kernel_rfl) rfl (fun K hK => ?_)
        go_simp
        refine hK.out _ _ ⟨boxC (HWa.out.get (T := tK bx (pcells s) 30) (by simp)), fun hu => ?_⟩ (fun hT => ?_)
        · exact absurd hu (by decide)
        clear hS
        have hS := hT
        clear hT
        simp only [List.setIfInBounds_toArray, List.set_cons_zero, List.set_cons_succ] at hS ⊢
        clear hK K
        refine oneG (i := 19) (by kernel_rfl) rfl (fun K hK => ?_)
        go_simp
        refine hK.out _ _ ⟨boxC (HWa.out.get (T := tK bx (pcells s) 30) (by simp)), fun hu => ?_⟩ (fun hT => ?_)
        · exact absurd hu (by decide)
        clear hS
        have hS := hT
        clear hT
        simp only [List.setIfInBounds_toArray, List.set_cons_zero, List.set_cons_succ] at hS ⊢
        clear hK K
        refine oneG (i := 20) (by kernel_rfl) rfl (fun K hK => ?_)
        have f1 := (HWa.out.get (T := tK p ((rcells ρ aS cS aO cO).set 0 (.slice a3 (ρ.sent.length + 1) c3)) 68) (by simp)).frozen 1
        have fl := (HWa.out.get (T := tK p ((rcells ρ aS cS aO cO).set 0 (.slice a3 (ρ.sent.length + 1) c3)) 68) (by simp)).lt
        have e1 := (HWa.out.get (T := tK p ((rcells ρ aS cS aO cO).set 0 (.slice a3 (ρ.sent.length + 1) c3)) 68) (by simp)).cell 1
        simp only [rcells, List.set_cons_zero, List.getElem?_cons_zero, List.getElem?_cons_succ] at e1
        go_simp
        have HWb := Lib.hid (HWa.out.set (i := 3) rfl 1 (.slice a4 (ρ.sent.length + 1) c4))
        refine hK.out _ _ ⟨boxC (HWb.out.get (T := tK bx (pcells s) 30) (by simp)), fun hu => ?_⟩ (fun hT => ?_)
        · exact absurd hu (by decide)
        clear hS
        have hS := hT
        clear hT
        simp only [List.setIfInBounds_toArray, List.set_cons_zero, List.set_cons_succ] at hS ⊢
        clear hK K f1 fl e1
        refine wpAnyG_done (by kernel_rfl) ?_ _
        clear hS
        go_wp2_with fail
        go_ret
        refine ⟨rfl, ?_⟩
        have hz := HWb.out
        have hz := hz.tail
        have hz := hz.tail
        have hz := hz.tail
        exact Own.isR (ρ := sendR ρ s) (n := ρ.sent.length + 1) (L := []) (by rw [show pk4 (sendR ρ s).sent = pk4 ρ.sent ++ pk4 [s] from pk4_append _ _, show blv (sendR ρ s).opn = blv ρ.opn ++ blv [true] from blv_append _ _, sendR_cells]; exact hz) (by simp [sendR]) HNO.out
    · go_simp
      have HW8 := Lib.hid (HWs.out.alloc [.bool true] 4)
      have HR2 := Lib.hid (rd_true V.drew)
      refine hK.out _ _ ⟨boxC (HW8.out.get (T := tK bx (pcells s) 30) (by simp)), fun hu => ?_⟩ (fun hT => ?_)
      · exact hdC (HW8.out.get (T := tK p (rcells ρ aS cS aO cO) 68) (by simp))
      clear hS
      have hS := hT
      clear hT
      simp only [List.setIfInBounds_toArray, List.set_cons_zero, List.set_cons_succ] at hS ⊢
      clear hK K
      refine oneG (i := 7) (by kernel_rfl) rfl (fun K hK => ?_)
      go_simp
      have HW9 := Lib.hid (HW8.out.alloc (pcells s) 30)
      have HR1 := Lib.hid (rd_pkt (V.drew.alloc (.cells #[.bool true] 4)) s)
      have HR2 := Lib.hid (HR2.out.touch ((Touch.refl [] (V.drew.alloc (.cells #[.bool true] 4))).alloc (.cells #[.int .u64 (s.pn : Int), .int .u64 (s.when_ : Int), .int .i64 (s.size : Int), .bool s.eager] 30)) (by simp))
      refine hK.out _ _ ⟨boxC (HW9.out.get (T := tK bx (pcells s) 30) (by simp)), fun hu => ?_⟩ (fun hT => ?_)
      · exact hdC (HW9.out.get (T := tK p (rcells ρ aS cS aO cO) 68) (by simp))
      clear hS
      have hS := hT
      clear hT
      simp only [List.setIfInBounds_toArray, List.set_cons_zero, List.set_cons_succ] at hS ⊢
      clear hK K
      refine oneG (i := 8) (by kernel_rfl) rfl (fun K hK => ?_)
      obtain ⟨i0, hi0, hz0, hz1, hz2⟩ := info_parts info30
      have HSL := Lib.hid (show Sl _ 30 4 (.slice aS ρ.sent.length cS) ρ.sent.length (pk4 ρ.sent) from HW9.out.get (T := tV 30 4 (.slice aS ρ.sent.length cS) ρ.sent.length (pk4 ρ.sent)) (by simp))
      refine step_append_sl _ rfl _ _ 65 rfl 30 i0 _ 4 32 und65 hi0 hz0 hz1 hz2 rfl (by omega) (.slice aS ρ.sent.length cS) ρ.sent.length (pk4 ρ.sent) (by simp [Act.eval]) HSL.out _ 1 (pk4 [s]) (by simp [Act.eval]) HR1.out (pk4_one _) (by unfold maxLen; omega) (by omega) fun a3 c3 w3 k1 k2 k3 k4 => ?_
      have HW10 := Lib.hid (HW9.out.append (i := 4) rfl k1 k2 k3)
      have HR2 := Lib.hid (HR2.out.touch k2 (apart HW9.out (i := 4) (j := 1) (by decide) rfl rfl))
      clear k1 k2 k3 k4
      refine hK.out _ _ ⟨boxC (HW10.out.get (T := tK bx (pcells s) 30) (by simp)), fun hu => ?_⟩ (fun hT => ?_)
      · exact hdC (HW10.out.get (T := tK p (rcells ρ aS cS aO cO) 68) (by simp))
      clear hS
      have hS := hT
      clear hT
      simp only [Act.put, List.setIfInBounds_toArray, List.set_cons_zero, List.set_cons_succ] at hS ⊢
      clear hK K
      refine oneG (i := 14) (by kernel_rfl) rfl (fun K hK => ?_)
      obtain ⟨j0, hj0, hy0, hy1, hy2⟩ := info_parts info4
      have HOL := Lib.hid (show Sl _ 4 1 (.slice aO ρ.sent.length cO) ρ.sent.length (blv ρ.opn) from HW10.out.get (T := tV 4 1 (.slice aO ρ.sent.length cO) ρ.sent.length (blv ρ.opn)) (by simp))
      refine step_append_sl _ rfl _ _ 66 rfl 4 j0 _ 1 1 und66 hj0 hy0 hy1 hy2 rfl (by omega) (.slice aO ρ.sent.length cO) ρ.sent.length (blv ρ.opn) (by simp [Act.eval]) HOL.out _ 1 (blv [true]) (by simp [Act.eval]) HR2.out (blv_one _) (by unfold maxLen; omega) (by omega) fun a4 c4 w4 k1 k2 k3 k4 => ?_
      have HW11 := Lib.hid (HW10.out.append (i := 5) rfl k1 k2 k3)
      clear k1 k2 k3 k4
      refine hK.out _ _ ⟨boxC (HW11.out.get (T := tK bx (pcells s) 30) (by simp)), fun hu => ?_⟩ (fun hT => ?_)
      · exact hdC (HW11.out.get (T := tK p (rcells ρ aS cS aO cO) 68) (by simp))
      clear hS
      have hS := hT
      clear hT
      simp only [Act.put, List.setIfInBounds_toArray, List.set_cons_zero, List.set_cons_succ] at hS ⊢
      clear hK K
      refine oneG (i := 15) (by kernel_rfl) rfl (fun K hK => ?_)
      go_simp
      refine hK.out _ _ ⟨boxC (HW11.out.get (T := tK bx (pcells s) 30) (by simp)), fun hu => ?_⟩ (fun hT => ?_)
      · exact hdC (HW11.out.get (T := tK p (rcells ρ aS cS aO cO) 68) (by simp))
      clear hS
      have hS := hT
      clear hT
      simp only [List.setIfInBounds_toArray, List.set_cons_zero, List.set_cons_succ] at hS ⊢
      clear hK K
      refine oneG (i := 16) (by kernel_rfl) rfl (fun K hK => ?_)
      go_simp
      refine hK.out _ _ ⟨boxC (HW11.out.get (T := tK bx (pcells s) 30) (by simp)), fun hu => ?_⟩ (fun hT => ?_)
      · exact hdC (HW11.out.get (T := tK p (rcells ρ aS cS aO cO) 68) (by simp))
      clear hS
      have hS := hT
      clear hT
      simp only [List.setIfInBounds_toArray, List.set_cons_zero, List.set_cons_succ] at hS ⊢
      clear hK K
      refine oneG (i := 17) (by kernel_rfl) rfl (fun K hK => ?_)
      have f0 := (HW11.out.get (T := tK p (rcells ρ aS cS aO cO) 68) (by simp)).frozen 0
      have fl := (HW11.out.get (T := tK p (rcells ρ aS cS aO cO) 68) (by simp)).lt
      have e0 := (HW11.out.get (T := tK p (rcells ρ aS cS aO cO) 68) (by simp)).cell 0
      simp only [rcells, List.getElem?_cons_zero] at e0
      go_simp
      have HWa := Lib.hid (HW11.out.set (i := 3) rfl 0 (.slice a3 (ρ.sent.length + 1) c3))
      refine hK.out _ _ ⟨boxC (HWa.out.get (T := tK bx (pcells s) 30) (by simp)), fun hu => ?_⟩ (fun hT => ?_)
      · exact absurd hu (by decide)
      clear hS
      have hS := hT
      clear hT
      simp only [List.setIfInBounds_toArray, List.set_cons_zero, List.set_cons_succ] at hS ⊢
      clear hK K f0 fl e0
      refine oneG (i := 18) (by kernel_rfl) rfl (fun K hK => ?_)
      go_simp
      refine hK.out _ _ ⟨boxC (HWa.out.get (T := tK bx (pcells s) 30) (by simp)), fun hu => ?_⟩ (fun hT => ?_)
      · exact absurd hu (by decide)
      clear hS
      have hS := hT
      clear hT
      simp only [List.setIfInBounds_toArray, List.set_cons_zero, List.set_cons_succ] at hS ⊢
      clear hK K
      refine oneG (i := 19) (by kernel_rfl) rfl (fun K hK => ?_)
      go_simp
      refine hK.out _ _ ⟨boxC (HWa.out.get (T := tK bx (pcells s) 30) (by simp)), fun hu => ?_⟩ (fun hT => ?_)
      · exact absurd hu (by decide)
      clear hS
      have hS := hT
      clear hT
      simp only [List.setIfInBounds_toArray, List.set_cons_zero, List.set_cons_succ] at hS ⊢
      clear hK K
      refine oneG (i := 20) (by kernel_rfl) rfl (fun K hK => ?_)
      have f1 := (HWa.out.get (T := tK p ((rcells ρ aS cS aO cO).set 0 (.slice a3 (ρ.sent.length + 1) c3)) 68) (by simp)).frozen 1
      have fl := (HWa.out.get (T := tK p ((rcells ρ aS cS aO cO).set 0 (.slice a3 (ρ.sent.length + 1) c3)) 68) (by simp)).lt
      have e1 := (HWa.out.get (T := tK p ((rcells ρ aS cS aO cO).set 0 (.slice a3 (ρ.sent.length + 1) c3)) 68) (by simp)).cell 1
      simp only [rcells, List.set_cons_zero, List.getElem?_cons_zero, List.getElem?_cons_succ] at e1
      go_simp
      have HWb := Lib.hid (HWa.out.set (i := 3) rfl 1 (.slice a4 (ρ.sent.length + 1) c4))
      refine hK.out _ _ ⟨boxC (HWb.out.get (T := tK bx (pcells s) 30) (by simp)), fun hu => ?_⟩ (fun hT => ?_)
      · exact absurd hu (by decide)
      clear hS
      have hS := hT
      clear hT
      simp only [List.setIfInBounds_toArray, List.set_cons_zero, List.set_cons_succ] at hS ⊢
      clear hK K f1 fl e1
      refine wpAnyG_done (by kernel_rfl) ?_ _
      clear hS
      go_wp2_with fail
      go_ret
      refine ⟨rfl, ?_⟩
      have hz := HWb.out
      have hz := hz.tail
      have hz := hz.tail
      have hz := hz.tail
      exact Own.isR (ρ := sendR ρ s) (n := ρ.sent.length + 1) (L := []) (by rw [show pk4 (sendR ρ s).sent = pk4 ρ.sent ++ pk4 [s] from pk4_append _ _, show blv (sendR ρ s).opn = blv ρ.opn ++ blv [true] from blv_append _ _, sendR_cells]; exact hz) (by simp [sendR]) HNO.out
  · obtain ⟨t, htt⟩ : ∃ t, ρ.sent[ρ.sent.length - 1]? = some t := ⟨_, List.getElem?_eq_getElem (by omega)⟩
    obtain ⟨g, o, rfl, hg, t0, _⟩ := Sl.pkt hsk rfl htt
    have htl := HL.out t (List.mem_of_getElem? htt)
    have z2 : decide (0 < ρ.sent.length) = true := decide_eq_true (by omega)
    have z3 : decide (s.pn ≤ t.pn) = false := decide_eq_false (by omega)
    have i1 : (0 : Int) ≤ (ρ.sent.length : Int) - 1 := by omega
    have i2 : (ρ.sent.length : Int) - 1 < (ρ.sent.length : Int) := by omega
    have i3 : ((ρ.sent.length : Int) - 1).toNat = ρ.sent.length - 1 := by omega
    clear hn0 htt
    go_quiet (fail)
    obtain ⟨V, hV⟩ : ∃ V, V = W.drewN nq := ⟨_, rfl⟩
    rw [← hV]
    have HV := Lib.hid (HW0.out.keep (w' := V) (by rw [hV]; exact (Touch.refl _ _).drewN _))
    clear hV b0 bl c0 cl
    go_upto_region 4 with (fail)
    have HWs := Lib.hid (HV.out.keep (w' := V.drew) ((Touch.refl _ _).drew))
    refine wp_region_hold (fun w' => (w'.cell? ⟨bx, 0, none⟩ = some (.int .u64 (s.pn : Int)) ∧ w'.cell? ⟨bx, 1, none⟩ = some (.int .u64 (s.when_ : Int)) ∧ w'.cell? ⟨bx, 2, none⟩ = some (.int .i64 (s.size : Int)) ∧ w'.cell? ⟨bx, 3, none⟩ = some (.bool s.eager)) ∧ bx < w'.heap.size) (fun w' => (w'.cell? ⟨p, 0, none⟩ = some (.slice (some ⟨g, o, none⟩) ρ.sent.length cS) ∧ w'.cell? ⟨p, 1, none⟩ = some (.slice aO ρ.sent.length cO)) ∧ p < w'.heap.size) [17, 20] [false, false, false, false, false, false, false, false, false, false, false, false, false, false, false, false, false, false, false, false, false] (by kernel_rfl) (by kernel_rfl) (boxC (HWs.out.get (T := tK bx (pcells s) 30) (by simp))) (hdC (HWs.out.get (T := tK p (rcells ρ (some ⟨g, o, none⟩) cS aO cO) 68) (by simp))) (fun hS => ?_)
    refine takeG (i := 0) (v := ?_) rfl (by kernel_rfl) (by kernel_rfl) (by kernel_rfl) (by kernel_rfl) (fun _ _ _ h => h) (Or.inl ⟨by rfl, ?_⟩) hS (fun hT => ?_)
    rotate_left
    · intro w hC; (try dsimp only at hC); go_simp; try with_reducible rfl
    clear hS
    have hS := hT
    clear hT
    simp only [Act.put, List.setIfInBounds_toArray, List.set_cons_zero] at hS ⊢
    refine takeG (i := 1) (v := ?_) rfl (by kernel_rfl) (by kernel_rfl) (by kernel_rfl) (by kernel_rfl) (fun _ _ _ h => h) (Or.inl ⟨by rfl, ?_⟩) hS (fun hT => ?_)
    rotate_left
    · intro w hC; (try dsimp only at hC); go_simp; try with_reducible rfl
    clear hS
    have hS := hT
    clear hT
    simp only [Act.put, List.setIfInBounds_toArray, List.set_cons_zero, List.set_cons_succ] at hS ⊢
    refine takeG (i := 2) (v := ?_) rfl (by kernel_rfl) (by kernel_rfl) (by kernel_rfl) (by kernel_rfl) (fun _ _ _ h => h) (Or.inl ⟨by rfl, ?_⟩) hS (fun hT => ?_)
    rotate_left
    · intro w hC; (try dsimp only at hC); go_simp; try with_reducible rfl
    clear hS
    have hS := hT
    clear hT
    simp only [Act.put, List.setIfInBounds_toArray, List.set_cons_zero, List.set_cons_succ] at hS ⊢
    refine takeG (i := 3) (v := ?_) rfl (by kernel_rfl) (by kernel_rfl) (by kernel_rfl) (by kernel_rfl) (fun _ _ _ h => h) (Or.inl ⟨by rfl, ?_⟩) hS (fun hT => ?_)
    rotate_left
    · intro w hC; (try dsimp only at hC); go_simp; try with_reducible rfl
    clear hS
    have hS := hT
    clear hT
    simp only [Act.put, List.setIfInBounds_toArray, List.set_cons_zero, List.set_cons_succ] at hS ⊢
    refine takeG (i := 4) (v := ?_) rfl (by kernel_rfl) (by kernel_rfl) (by kernel_rfl) (by kernel_rfl) (fun _ _ _ h => h) (Or.inl ⟨by rfl, ?_⟩) hS (fun hT => ?_)
    rotate_left
    · intro w hC; (try dsimp only at hC); go_simp; try with_reducible rfl
    clear hS
    have hS := hT
    clear hT
    simp only [Act.put, List.setIfInBounds_toArray, List.set_cons_zero, List.set_cons_succ] at hS ⊢
    refine takeG1 (i := 5) (v := ?_) rfl (by kernel_rfl) (by kernel_rfl) (by kernel_rfl) (by kernel_rfl) (by kernel_rfl) (by kernel_rfl) (fun _ _ _ h => h) (Or.inl ⟨by rfl, ?_⟩) hS (fun hT => ?_)
    rotate_left
    · intro w hC; (try dsimp only at hC); go_simp; try with_reducible rfl
    clear hS
    have hS := hT
    clear hT
    simp only [Act.put, List.setIfInBounds_toArray, List.set_cons_zero, List.set_cons_succ] at hS ⊢
    refine takeG (i := 6) (v := ?_) rfl (by kernel_rfl) (by kernel_rfl) (by kernel_rfl) (by kernel_rfl) (fun _ _ _ h => h) (Or.inl ⟨by rfl, ?_⟩) hS (fun hT => ?_)
    rotate_left
    · intro w hC; (try dsimp only at hC); go_simp; try with_reducible rfl
    clear hS
    have hS := hT
    clear hT
    simp only [Act.put, List.setIfInBounds_toArray, List.set_cons_zero, List.set_cons_succ] at hS ⊢
    refine takeG (i := 9) (v := ?_) rfl (by kernel_rfl) (by kernel_rfl) (by kernel_rfl) (by kernel_rfl) (fun _ _ _ h => h) (Or.inl ⟨by rfl, ?_⟩) hS (fun hT => ?_)
    rotate_left
    · intro w hC; (try dsimp only at hC); go_simp; try with_reducible rfl
    clear hS
    have hS := hT
    clear hT
    simp only [Act.put, List.setIfInBounds_toArray, List.set_cons_zero, List.set_cons_succ] at hS ⊢
    refine takeG (i := 10) (v := ?_) rfl (by kernel_rfl) (by kernel_rfl) (by kernel_rfl) (by kernel_rfl) (fun _ _ _ h => h) (Or.inl ⟨by rfl, ?_⟩) hS (fun hT => ?_)
    rotate_left
    · intro w hC; (try dsimp only at hC); go_simp; try with_reducible rfl
    clear hS
    have hS := hT
    clear hT
    simp only [Act.put, List.setIfInBounds_toArray, List.set_cons_zero, List.set_cons_succ] at hS ⊢
    refine takeG (i := 11) (v := ?_) rfl (by kernel_rfl) (by kernel_rfl) (by kernel_rfl) (by kernel_rfl) (fun _ _ _ h => h) (Or.inl ⟨by rfl, ?_⟩) hS (fun hT => ?_)
    rotate_left
    · intro w hC; (try dsimp only at hC); go_simp; try with_reducible rfl
    clear hS
    have hS := hT
    clear hT
    simp only [Act.put, List.setIfInBounds_toArray, List.set_cons_zero, List.set_cons_succ] at hS ⊢
    refine takeG1 (i := 12) (v := ?_) rfl (by kernel_rfl) (by kernel_rfl) (by kernel_rfl) (by kernel_rfl) (by kernel_rfl) (by kernel_rfl) (fun _ _ _ h => h) (Or.inl ⟨by rfl, ?_⟩) hS (fun hT => ?_)
    rotate_left
    · intro w hC; (try dsimp only at hC); go_simp; try with_reducible rfl
    clear hS
    have hS := hT
    clear hT
    simp only [Act.put, List.setIfInBounds_toArray, List.set_cons_zero, List.set_cons_succ] at hS ⊢
    refine twoG (i := 7) (j := 13) (by kernel_rfl) rfl rfl (fun K hK => ?_) (fun K hK => ?_)
    · go_simp
      have HW1 := Lib.hid (HWs.out.alloc (pcells s) 30)
      have HR1 := Lib.hid (rd_pkt V.drew s)
      refine hK.out _ _ ⟨boxC (HW1.out.get (T := tK bx (pcells s) 30) (by simp)), fun hu => ?_⟩ (fun hT => ?_)
      · exact hdC (HW1.out.get (T := tK p (rcells ρ (some ⟨g, o, none⟩) cS aO cO) 68) (by simp))
      clear hS
      have hS := hT
      clear hT
      simp only [List.setIfInBounds_toArray, List.set_cons_zero, List.set_cons_succ] at hS ⊢
      clear hK K
      refine twoG (i := 8) (j := 13) (by kernel_rfl) rfl rfl (fun K hK => ?_) (fun K hK => ?_)
      · obtain ⟨i0, hi0, hz0, hz1, hz2⟩ := info_parts info30
        have HSL := Lib.hid (show Sl _ 30 4 (.slice (some ⟨g, o, none⟩) ρ.sent.length cS) ρ.sent.length (pk4 ρ.sent) from HW1.out.get (T := tV 30 4 (.slice (some ⟨g, o, none⟩) ρ.sent.length cS) ρ.sent.length (pk4 ρ.sent)) (by simp))
        refine step_append_sl _ rfl _ _ 65 rfl 30 i0 _ 4 32 und65 hi0 hz0 hz1 hz2 rfl (by omega) (.slice (some ⟨g, o, none⟩) ρ.sent.length cS) ρ.sent.length (pk4 ρ.sent) (by simp [Act.eval]) HSL.out _ 1 (pk4 [s]) (by simp [Act.eval]) HR1.out (pk4_one _) (by unfold maxLen; omega) (by omega) fun a3 c3 w3 k1 k2 k3 k4 => ?_
        have HW2 := Lib.hid (HW1.out.append (i := 3) rfl k1 k2 k3)
        clear k1 k2 k3 k4
        refine hK.out _ _ ⟨boxC (HW2.out.get (T := tK bx (pcells s) 30) (by simp)), fun hu => ?_⟩ (fun hT => ?_)
        · exact hdC (HW2.out.get (T := tK p (rcells ρ (some ⟨g, o, none⟩) cS aO cO) 68) (by simp))
        clear hS
        have hS := hT
        clear hT
        simp only [Act.put, List.setIfInBounds_toArray, List.set_cons_zero, List.set_cons_succ] at hS ⊢
        clear hK K
        refine oneG (i := 13) (by kernel_rfl) rfl (fun K hK => ?_)
        go_simp
        have HW3 := Lib.hid (HW2.out.alloc [.bool true] 4)
        have HR2 := Lib.hid (rd_true w3)
        refine hK.out _ _ ⟨boxC (HW3.out.get (T := tK bx (pcells s) 30) (by simp)), fun hu => ?_⟩ (fun hT => ?_)
        · exact hdC (HW3.out.get (T := tK p (rcells ρ (some ⟨g, o, none⟩) cS aO cO) 68) (by simp))
        clear hS
        have hS := hT
        clear hT
        simp only [List.setIfInBounds_toArray, List.set_cons_zero, List.set_cons_succ] at hS ⊢
        clear hK K
        refine oneG (i := 14) (by kernel_rfl) rfl (fun K hK => ?_)
        obtain ⟨j0, hj0, hy0, hy1, hy2⟩ := info_parts info4
        have HOL := Lib.hid (show Sl _ 4 1 (.slice aO ρ.sent.length cO) ρ.sent.length (blv ρ.opn) from HW3.out.get (T := tV 4 1 (.slice aO ρ.sent.length cO) ρ.sent.length (blv ρ.opn)) (by simp))
        refine step_append_sl _ rfl _ _ 66 rfl 4 j0 _ 1 1 und66 hj0 hy0 hy1 hy2 rfl (by omega) (.slice aO ρ.sent.length cO) ρ.sent.length (blv ρ.opn) (by simp [Act.eval]) HOL.out _ 1 (blv [true]) (by simp [Act.eval]) HR2.out (blv_one _) (by unfold maxLen; omega) (by omega) fun a4 c4 w4 k1 k2 k3 k4 => ?_
        have HW4 := Lib.hid (HW3.out.append (i := 5) rfl k1 k2 k3)
        clear k1 k2 k3 k4
        refine hK.out _ _ ⟨boxC (HW4.out.get (T := tK bx (pcells s) 30) (by simp)), fun hu => ?_⟩ (fun hT => ?_)
        · exact hdC (HW4.out.get (T := tK p (rcells ρ (some ⟨g, o, none⟩) cS aO cO) 68) (by simp))
        clear hS
        have hS := hT
        clear hT
        simp only [Act.put, List.setIfInBounds_toArray, List.set_cons_zero, List.set_cons_succ] at hS ⊢
        clear hK K
        refine oneG (i := 15) (by kernel_rfl) rfl (fun K hK => ?_)
        go_simp
        refine hK.out _ _ ⟨boxC (HW4.out.get (T := tK bx (pcells s) 30) (by simp)), fun hu => ?_⟩ (fun hT => ?_)
        · exact hdC (HW4.out.get (T := tK p (rcells ρ (some ⟨g, o, none⟩) cS aO cO) 68) (by simp))
        clear hS
        have hS := hT
        clear hT
        simp only [List.setIfInBounds_toArray, List.set_cons_zero, List.set_cons_succ] at hS ⊢
        clear hK K
        refine oneG (i := 16) (by kernel_rfl) rfl (fun K hK => ?_)
        go_simp
        refine hK.out _ _ ⟨boxC (HW4.out.get (T := tK bx (pcells s) 30) (by simp)), fun hu => ?_⟩ (fun hT => ?_)
        · exact hdC (HW4.out.get (T := tK p (rcells ρ (some ⟨g, o, none⟩) cS aO cO) 68) (by simp))
        clear hS
        have hS := hT
        clear hT
        simp only [List.setIfInBounds_toArray, List.set_cons_zero, List.set_cons_succ] at hS ⊢
        clear hK K
        refine oneG (i := 17) (by kernel_rfl) rfl (fun K hK => ?_)
        have f0 := (HW4.out.get (T := tK p (rcells ρ (some ⟨g, o, none⟩) cS aO cO) 68) (by simp)).frozen 0
        have fl := (HW4.out.get (T := tK p (rcells ρ (some ⟨g, o, none⟩) cS aO cO) 68) (by simp)).lt
        have e0 := (HW4.out.get (T := tK p (rcells ρ (some ⟨g, o, none⟩) cS aO cO) 68) (by simp)).cell 0
        simp only [rcells, List.getElem?_cons_zero] at e0
        go_simp
        have HWa := Lib.hid (HW4.out.set (i := 3) rfl 0 (.slice a3 (ρ.sent.length + 1) c3))
        refine hK.out _ _ ⟨boxC (HWa.out.get (T := tK bx (pcells s) 30) (by simp)), fun hu => ?_⟩ (fun hT => ?_)
        · exact absurd hu (by decide)
        clear hS
        have hS := hT
        clear hT
        simp only [List.setIfInBounds_toArray, List.set_cons_zero, List.set_cons_succ] at hS ⊢
        clear hK K f0 fl e0
        refine oneG (i := 18) (by kernel_rfl) rfl (fun K hK => ?_)
        go_simp
        refine hK.out _ _ ⟨boxC (HWa.out.get (T := tK bx (pcells s) 30) (by simp)), fun hu => ?_⟩ (fun hT => ?_)
        · exact absurd hu (by decide)
        clear hS
        have hS := hT
        clear hT
        simp only [List.setIfInBounds_toArray, List.set_cons_zero, List.set_cons_succ] at hS ⊢
        clear hK K
        refine oneG (i := 19) (by kernel_rfl) rfl (fun K hK => ?_)
        go_simp
        refine hK.out _ _ ⟨boxC (HWa.out.get (T := tK bx (pcells s) 30) (by simp)), fun hu => ?_⟩ (fun hT => ?_)
        · exact absurd hu (by decide)
        clear hS
        have hS := hT
        clear hT
        simp only [List.setIfInBounds_toArray, List.set_cons_zero, List.set_cons_succ] at hS ⊢
        clear hK K
        refine oneG (i := 20) (by kernel_rfl) rfl (fun K hK => ?_)
        have f1 := (HWa.out.get (T := tK p ((rcells ρ (some ⟨g, o, none⟩) cS aO cO).set 0 (.slice a3 (ρ.sent.length + 1) c3)) 68) (by simp)).frozen 1
        have fl := (HWa.out.get (T := tK p ((rcells ρ (some ⟨g, o, none⟩) cS aO cO).set 0 (.slice a3 (ρ.sent.length + 1) c3)) 68) (by simp)).lt
        have e1 := (HWa.out.get (T := tK p ((rcells ρ (some ⟨g, o, none⟩) cS aO cO).set 0 (.slice a3 (ρ.sent.length + 1) c3)) 68) (by simp)).cell 1
        simp only [rcells, List.set_cons_zero, List.getElem?_cons_zero, List.getElem?_cons_succ] at e1
        go_simp
        have HWb := Lib.hid (HWa.out.set (i := 3) rfl 1 (.slice a4 (ρ.sent.length + 1) c4))
        refine hK.out _ _ ⟨boxC (HWb.out.get (T := tK bx (pcells s) 30) (by simp)), fun hu => ?_⟩ (fun hT => ?_)
        · exact absurd hu (by decide)
        clear hS
        have hS := hT
        clear hT
        simp only [List.setIfInBounds_toArray, List.set_cons_zero, List.set_cons_succ] at hS ⊢
        clear hK K f1 fl e1
        refine wpAnyG_done (by kernel_rfl) ?_ _
        clear hS
        go_wp2_with fail
        go_ret
        refine ⟨rfl, ?_⟩
        have hz := HWb.out
        have hz := hz.tail
        have hz := hz.tail
        have hz := hz.tail
        exact Own.isR (ρ := sendR ρ s) (n := ρ.sent.length + 1) (L := []) (by rw [show pk4 (sendR ρ s).sent = pk4 ρ.sent ++ pk4 [s] from pk4_append _ _, show blv (sendR ρ s).opn = blv ρ.opn ++ blv [true] from blv_append _ _, sendR_cells]; exact hz) (by simp [sendR]) HNO.out
      · go_simp
        have HW5 := Lib.hid (HW1.out.alloc [.bool true] 4)
        have HR2 := Lib.hid (rd_true (V.drew.alloc (.cells #[.int .u64 (s.pn : Int), .int .u64 (s.when_ : Int), .int .i64 (s.size : Int), .bool s.eager] 30)))
        have HR1 := Lib.hid (HR1.out.touch ((Touch.refl [] (V.drew.alloc (.cells #[.int .u64 (s.pn : Int), .int .u64 (s.when_ : Int), .int .i64 (s.size : Int), .bool s.eager] 30))).alloc (.cells #[.bool true] 4)) (by simp))
        refine hK.out _ _ ⟨boxC (HW5.out.get (T := tK bx (pcells s) 30) (by simp)), fun hu => ?_⟩ (fun hT => ?_)
        · exact hdC (HW5.out.get (T := tK p (rcells ρ (some ⟨g, o, none⟩) cS aO cO) 68) (by simp))
        clear hS
        have hS := hT
        clear hT
        simp only [List.setIfInBounds_toArray, List.set_cons_zero, List.set_cons_succ] at hS ⊢
        clear hK K
        refine oneG (i := 8) (by kernel_rfl) rfl (fun K hK => ?_)
        obtain ⟨i0, hi0, hz0, hz1, hz2⟩ := info_parts info30
        have HSL := Lib.hid (show Sl _ 30 4 (.slice (some ⟨g, o, none⟩) ρ.sent.length cS) ρ.sent.length (pk4 ρ.sent) from HW5.out.get (T := tV 30 4 (.slice (some ⟨g, o, none⟩) ρ.sent.length cS) ρ.sent.length (pk4 ρ.sent)) (by simp))
        refine step_append_sl _ rfl _ _ 65 rfl 30 i0 _ 4 32 und65 hi0 hz0 hz1 hz2 rfl (by omega) (.slice (some ⟨g, o, none⟩) ρ.sent.length cS) ρ.sent.length (pk4 ρ.sent) (by simp [Act.eval]) HSL.out _ 1 (pk4 [s]) (by simp [Act.eval]) HR1.out (pk4_one _) (by unfold maxLen; omega) (by omega) fun a3 c3 w3 k1 k2 k3 k4 => ?_
        have HW6 := Lib.hid (HW5.out.append (i := 4) rfl k1 k2 k3)
        have HR2 := Lib.hid (HR2.out.touch k2 (apart HW5.out (i := 4) (j := 0) (by decide) rfl rfl))
        clear k1 k2 k3 k4
        refine hK.out _ _ ⟨boxC (HW6.out.get (T := tK bx (pcells s) 30) (by simp)), fun hu => ?_⟩ (fun hT => ?_)
        · exact hdC (HW6.out.get (T := tK p (rcells ρ (some ⟨g, o, none⟩) cS aO cO) 68) (by simp))
        clear hS
        have hS := hT
        clear hT
        simp only [Act.put, List.setIfInBounds_toArray, List.set_cons_zero, List.set_cons_succ] at hS ⊢
        clear hK K
        refine oneG (i := 14) (by kernel_rfl) rfl (fun K hK => ?_)
        obtain ⟨j0, hj0, hy0, hy1, hy2⟩ := info_parts info4
        have HOL := Lib.hid (show Sl _ 4 1 (.slice aO ρ.sent.length cO) ρ.sent.length (blv ρ.opn) from HW6.out.get (T := tV 4 1 (.slice aO ρ.sent.length cO) ρ.sent.length (blv ρ.opn)) (by simp))
        refine step_append_sl _ rfl _ _ 66 rfl 4 j0 _ 1 1 und66 hj0 hy0 hy1 hy2 rfl (by omega) (.slice aO ρ.sent.length cO) ρ.sent.length (blv ρ.opn) (by simp [Act.eval]) HOL.out _ 1 (blv [true]) (by simp [Act.eval]) HR2.out (blv_one _) (by unfold maxLen; omega) (by omega) fun a4 c4 w4 k1 k2 k3 k4 => ?_
        have HW7 := Lib.hid (HW6.out.append (i := 5) rfl k1 k2 k3)
        clear k1 k2 k3 k4
        refine hK.out _ _ ⟨boxC (HW7.out.get (T := tK bx (pcells s) 30) (by simp)), fun hu => ?_⟩ (fun hT => ?_)
        · exact hdC (HW7.out.get (T := tK p (rcells ρ (some ⟨g, o, none⟩) cS aO cO) 68) (by simp))
        clear hS
        have hS := hT
        clear hT
        simp only [Act.put, List.setIfInBounds_toArray, List.set_cons_zero, List.set_cons_succ] at hS ⊢
        clear hK K
        refine oneG (i := 15) (by kernel_rfl) rfl (fun K hK => ?_)
        go_simp
        refine hK.out _ _ ⟨boxC (HW7.out.get (T := tK bx (pcells s) 30) (by simp)), fun hu => ?_⟩ (fun hT => ?_)
        · exact hdC (HW7.out.get (T := tK p (rcells ρ (some ⟨g, o, none⟩) cS aO cO) 68) (by simp))
        clear hS
        have hS := hT
        clear hT
        simp only [List.setIfInBounds_toArray, List.set_cons_zero, List.set_cons_succ] at hS ⊢
        clear hK K
        refine oneG (i := 16) (by kernel_rfl) rfl (fun K hK => ?_)
        go_simp
        refine hK.out _ _ ⟨boxC (HW7.out.get (T := tK bx (pcells s) 30) (by simp)), fun hu => ?_⟩ (fun hT => ?_)
        · exact hdC (HW7.out.get (T := tK p (rcells ρ (some ⟨g, o, none⟩) cS aO cO) 68) (by simp))
        clear hS
        have hS := hT
        clear hT
        simp only [List.setIfInBounds_toArray, List.set_cons_zero, List.set_cons_succ] at hS ⊢
        clear hK K
        refine oneG (i := 17) (by kernel_rfl) rfl (fun K hK => ?_)
        have f0 := (HW7.out.get (T := tK p (rcells ρ (some ⟨g, o, none⟩) cS aO cO) 68) (by simp)).frozen 0
        have fl := (HW7.out.get (T := tK p (rcells ρ (some ⟨g, o, none⟩) cS aO cO) 68) (by simp)).lt
        have e0 := (HW7.out.get (T := tK p (rcells ρ (some ⟨g, o, none⟩) cS aO cO) 68) (by simp)).cell 0
        simp only [rcells, List.getElem?_cons_zero] at e0
        go_simp
        have HWa := Lib.hid (HW7.out.set (i := 3) rfl 0 (.slice a3 (ρ.sent.length + 1) c3))
        refine hK.out _ _ ⟨boxC (HWa.out.get (T := tK bx (pcells s) 30) (by simp)), fun hu => ?_⟩ (fun hT => ?_)
        · exact absurd hu (by decide)
        clear hS
        have hS := hT
        clear hT
        simp only [List.setIfInBounds_toArray, List.set_cons_zero, List.set_cons_succ] at hS ⊢
        clear hK K f0 fl e0
        refine oneG (i := 18) (by kernel_rfl) rfl (fun K hK => ?_)
        go_simp
        refine hK.out _ _ ⟨boxC (HWa.out.get (T := tK bx (pcells s) 30) (by simp)), fun hu => ?_⟩ (fun hT => ?_)
        · exact absurd hu (by decide)
        clear hS
        have hS := hT
        clear hT
        simp only [List.setIfInBounds_toArray, List.set_cons_zero, List.set_cons_succ] at hS ⊢
        clear hK K
        refine oneG (i := 19) (by kernel_rfl) rfl (fun K hK => ?_)
        go_simp
        refine hK.out _ _ ⟨boxC (HWa.out.get (T := tK bx (pcells s) 30) (by simp)), fun hu => ?_⟩ (fun hT => ?_)
        · exact absurd hu (by decide)
        clear hS
        have hS := hT
        clear hT
        simp only [List.setIfInBounds_toArray, List.set_cons_zero, List.set_cons_succ] at hS ⊢
        clear hK K
        refine oneG (i := 20) (by kernel_rfl) rfl (fun K hK => ?_)
        have f1 := (HWa.out.get (T := tK p ((rcells ρ (some ⟨g, o, none⟩) cS aO cO).set 0 (.slice a3 (ρ.sent.length + 1) c3)) 68) (by simp)).frozen 1
        have fl := (HWa.out.get (T := tK p ((rcells ρ (some ⟨g, o, none⟩) cS aO cO).set 0 (.slice a3 (ρ.sent.length + 1) c3)) 68) (by simp)).lt
        have e1 := (HWa.out.get (T := tK p ((rcells ρ (some ⟨g, o, none⟩) cS aO cO).set 0 (.slice a3 (ρ.sent.length + 1) c3)) 68) (by simp)).cell 1
        simp only [rcells, List.set_cons_zero, List.getElem?_cons_zero, List.getElem?_cons_succ] at e1
        go_simp
        have HWb := Lib.hid (HWa.out.set (i := 3) rfl 1 (.slice a4 (ρ.sent.length + 1) c4))
        refine hK.out _ _ ⟨boxC (HWb.out.get (T := tK bx (pcells s) 30) (by simp)), fun hu => ?_⟩ (fun hT => ?_)
        · exact absurd hu (by decide)
        clear hS
        have hS := hT
        clear hT
        simp only [List.setIfInBounds_toArray, List.set_cons_zero, List.set_cons_succ] at hS ⊢
        clear hK K f1 fl e1
        refine wpAnyG_done (by kernel_rfl) ?_ _
        clear hS
        go_wp2_with fail
        go_ret
        refine ⟨rfl, ?_⟩
        have hz := HWb.out
        have hz := hz.tail
        have hz := hz.tail
        have hz := hz.tail
        exact Own.isR (ρ := sendR ρ s) (n := ρ.sent.length + 1) (L := []) (by rw [show pk4 (sendR ρ s).sent = pk4 ρ.sent ++ pk4 [s] from pk4_append _ _, show blv (sendR ρ s).opn = blv ρ.opn ++ blv [true] from blv_append _ _, sendR_cells]; exact hz) (by simp [sendR]) HNO.out
    · go_simp
      have HW8 := Lib.hid (HWs.out.alloc [.bool true] 4)
      have HR2 := Lib.hid (rd_true V.drew)
      refine hK.out _ _ ⟨boxC (HW8.out.get (T := tK bx (pcells s) 30) (by simp)), fun hu => ?_⟩ (fun hT => ?_)
      · exact hdC (HW8.out.get (T := tK p (rcells ρ (some ⟨g, o, none⟩) cS aO cO) 68) (by simp))
      clear hS
      have hS := hT
      clear hT
      simp only [List.setIfInBounds_toArray, List.set_cons_zero, List.set_cons_succ] at hS ⊢
      clear hK K
      refine oneG (i := 7) (by kernel_rfl) rfl (fun K hK => ?_)
      go_simp
      have HW9 := Lib.hid (HW8.out.alloc (pcells s) 30)
      have HR1 := Lib.hid (rd_pkt (V.drew.alloc (.cells #[.bool true] 4)) s)
      have HR2 := Lib.hid (HR2.out.touch ((Touch.refl [] (V.drew.alloc (.cells #[.bool true] 4))).alloc (.cells #[.int .u64 (s.pn : Int), .int .u64 (s.when_ : Int), .int .i64 (s.size : Int), .bool s.eager] 30)) (by simp))
      refine hK.out _ _ ⟨boxC (HW9.out.get (T := tK bx (pcells s) 30) (by simp)), fun hu => ?_⟩ (fun hT => ?_)
      · exact hdC (HW9.out.get (T := tK p (rcells ρ (some ⟨g, o, none⟩) cS aO cO) 68) (by simp))
      clear hS
      have hS := hT
      clear hT
      simp only [List.setIfInBounds_toArray, List.set_cons_zero, List.set_cons_succ] at hS ⊢
      clear hK K
      refine oneG (i := 8) (by kernel_rfl) rfl (fun K hK => ?_)
      obtain ⟨i0, hi0, hz0, hz1, hz2⟩ := info_parts info30
      have HSL := Lib.hid (show Sl _ 30 4 (.slice (some ⟨g, o, none⟩) ρ.sent.length cS) ρ.sent.length (pk4 ρ.sent) from HW9.out.get (T := tV 30 4 (.slice (some ⟨g, o, none⟩) ρ.sent.length cS) ρ.sent.length (pk4 ρ.sent)) (by simp))
      refine step_append_sl _ rfl _ _ 65 rfl 30 i0 _ 4 32 und65 hi0 hz0 hz1 hz2 rfl (by omega) (.slice (some ⟨g, o, none⟩) ρ.sent.length cS) ρ.sent.length (pk4 ρ.sent) (by simp [Act.eval]) HSL.out _ 1 (pk4 [s]) (by simp [Act.eval]) HR1.out (pk4_one _) (by unfold maxLen; omega) (by omega) fun a3 c3 w3 k1 k2 k3 k4 => ?_
      have HW10 := Lib.hid (HW9.out.append (i := 4) rfl k1 k2 k3)
      have HR2 := Lib.hid (HR2.out.touch k2 (apart HW9.out (i := 4) (j := 1) (by decide) rfl rfl))
      clear k1 k2 k3 k4
      refine hK.out _ _ ⟨boxC (HW10.out.get (T := tK bx (pcells s) 30) (by simp)), fun hu => ?_⟩ (fun hT => ?_)
      · exact hdC (HW10.out.get (T := tK p (rcells ρ (some ⟨g, o, none⟩) cS aO cO) 68) (by simp))
      clear hS
      have hS := hT
      clear hT
      simp only [Act.put, List.setIfInBounds_toArray, List.set_cons_zero, List.set_cons_succ] at hS ⊢
      clear hK K
      refine oneG (i := 14) (by kernel_rfl) rfl (fun K hK => ?_)
      obtain ⟨j0, hj0, hy0, hy1, hy2⟩ := info_parts info4
      have HOL := Lib.hid (show Sl _ 4 1 (.slice aO ρ.sent.length cO) ρ.sent.length (blv ρ.opn) from HW10.out.get (T := tV 4 1 (.slice aO ρ.sent.length cO) ρ.sent.length (blv ρ.opn)) (by simp))
      refine step_append_sl _ rfl _ _ 66 rfl 4 j0 _ 1 1 und66 hj0 hy0 hy1 hy2 rfl (by omega) (.slice aO ρ.sent.length cO) ρ.sent.length (blv ρ.opn) (by simp [Act.eval]) HOL.out _ 1 (blv [true]) (by simp [Act.eval]) HR2.out (blv_one _) (by unfold maxLen; omega) (by omega) fun a4 c4 w4 k1 k2 k3 k4 => ?_
      have HW11 := Lib.hid (HW10.out.append (i := 5) rfl k1 k2 k3)
      clear k1 k2 k3 k4
      refine hK.out _ _ ⟨boxC (HW11.out.get (T := tK bx (pcells s) 30) (by simp)), fun hu => ?_⟩ (fun hT => ?_)
      · exact hdC (HW11.out.get (T := tK p (rcells ρ (some ⟨g, o, none⟩) cS aO cO) 68) (by simp))
      clear hS
      have hS := hT
      clear hT
      simp only [Act.put, List.setIfInBounds_toArray, List.set_cons_zero, List.set_cons_succ] at hS ⊢
      clear hK K
      refine oneG (i := 15) (by kernel_rfl) rfl (fun K hK => ?_)
      go_simp
      refine hK.out _ _ ⟨boxC (HW11.out.get (T := tK bx (pcells s) 30) (by simp)), fun hu => ?_⟩ (fun hT => ?_)
      · exact hdC (HW11.out.get (T := tK p (rcells ρ (some ⟨g, o, none⟩) cS aO cO) 68) (by simp))
      clear hS
      have hS := hT
      clear hT
      simp only [List.setIfInBounds_toArray, List.set_cons_zero, List.set_cons_succ] at hS ⊢
      clear hK K
      refine oneG (i := 16) (by kernel_rfl) rfl (fun K hK => ?_)
      go_simp
      refine hK.out _ _ ⟨boxC (HW11.out.get (T := tK bx (pcells s) 30) (by simp)), fun hu => ?_⟩ (fun hT => ?_)
      · exact hdC (HW11.out.get (T := tK p (rcells ρ (some ⟨g, o, none⟩) cS aO cO) 68) (by simp))
      clear hS
      have hS := hT
      clear hT
      simp only [List.setIfInBounds_toArray, List.set_cons_zero, List.set_cons_succ] at hS ⊢
      clear hK K
      refine oneG (i := 17) (by kernel_rfl) rfl (fun K hK => ?_)
      have f0 := (HW11.out.get (T := tK p (rcells ρ (some ⟨g, o, none⟩) cS aO cO) 68) (by simp)).frozen 0
      have fl := (HW11.out.get (T := tK p (rcells ρ (some ⟨g, o, none⟩) cS aO cO) 68) (by simp)).lt
      have e0 := (HW11.out.get (T := tK p (rcells ρ (some ⟨g, o, none⟩) cS aO cO) 68) (by simp)).cell 0
      simp only [rcells, List.getElem?_cons_zero] at e0
      go_simp
      have HWa := Lib.hid (HW11.out.set (i := 3) rfl 0 (.slice a3 (ρ.sent.length + 1) c3))
      refine hK.out _ _ ⟨boxC (HWa.out.get (T := tK bx (pcells s) 30) (by simp)), fun hu => ?_⟩ (fun hT => ?_)
      · exact absurd hu (by decide)
      clear hS
      have hS := hT
      clear hT
      simp only [List.setIfInBounds_toArray, List.set_cons_zero, List.set_cons_succ] at hS ⊢
      clear hK K f0 fl e0
      refine oneG (i := 18) (by kernel_rfl) rfl (fun K hK => ?_)
      go_simp
      refine hK.out _ _ ⟨boxC (HWa.out.get (T := tK bx (pcells s) 30) (by simp)), fun hu => ?_⟩ (fun hT => ?_)
      · exact absurd hu (by decide)
      clear hS
      have hS := hT
      clear hT
      simp only [List.setIfInBounds_toArray, List.set_cons_zero, List.set_cons_succ] at hS ⊢
      clear hK K
      refine oneG (i := 19) (by kernel_rfl) rfl (fun K hK => ?_)
      go_simp
      refine hK.out _ _ ⟨boxC (HWa.out.get (T := tK bx (pcells s) 30) (by simp)), fun hu => ?_⟩ (fun hT => ?_)
      · exact absurd hu (by decide)
      clear hS
      have hS := hT
      clear hT
      simp only [List.setIfInBounds_toArray, List.set_cons_zero, List.set_cons_succ] at hS ⊢
      clear hK K
      refine oneG (i := 20) (by kernel_rfl) rfl (fun K hK => ?_)
      have f1 := (HWa.out.get (T := tK p ((rcells ρ (some ⟨g, o, none⟩) cS aO cO).set 0 (.slice a3 (ρ.sent.length + 1) c3)) 68) (by simp)).frozen 1
      have fl := (HWa.out.get (T := tK p ((rcells ρ (some ⟨g, o, none⟩) cS aO cO).set 0 (.slice a3 (ρ.sent.length + 1) c3)) 68) (by simp)).lt
      have e1 := (HWa.out.get (T := tK p ((rcells ρ (some ⟨g, o, none⟩) cS aO cO).set 0 (.slice a3 (ρ.sent.length + 1) c3)) 68) (by simp)).cell 1
      simp only [rcells, List.set_cons_zero, List.getElem?_cons_zero, List.getElem?_cons_succ] at e1
      go_simp
      have HWb := Lib.hid (HWa.out.set (i := 3) rfl 1 (.slice a4 (ρ.sent.length + 1) c4))
      refine hK.out _ _ ⟨boxC (HWb.out.get (T := tK bx (pcells s) 30) (by simp)), fun hu => ?_⟩ (fun hT => ?_)
      · exact absurd hu (by decide)
      clear hS
      have hS := hT
      clear hT
      simp only [List.setIfInBounds_toArray, List.set_cons_zero, List.set_cons_succ] at hS ⊢
      clear hK K f1 fl e1
      refine wpAnyG_done (by kernel_rfl) ?_ _
      clear hS
      go_wp2_with fail
      go_ret
      refine ⟨rfl, ?_⟩
      have hz := HWb.out
      have hz := hz.tail
      have hz := hz.tail
      have hz := hz.tail
      exact Own.isR (ρ := sendR ρ s) (n := ρ.sent.length + 1) (L := []) (by rw [show pk4 (sendR ρ s).sent = pk4 ρ.sent ++ pk4 [s] from pk4_append _ _, show blv (sendR ρ s).opn = blv ρ.opn ++ blv [true] from blv_append _ _, sendR_cells]; exact hz) (by simp [sendR]) HNO.out
end Go.Proofs.Ythnokfchebmjiaa
