/- What a net holds, and the contracts of has, Len, Pull and Drop. Conditions: none of their own. -/
import Derived.Test.YtaklbobmbobcaaaC
namespace Go.Proofs.Ytaklbobmbobcaaa
open Go.RowKit

/-- The net at block q holds the datagrams L; K: its own blocks, F: those of its datagrams too. -/
def IsNet (w : World) (q : Nat) (K F : List Nat) (L : List (List UInt8)) : Prop :=
  ∃ v, ∃ its : List (Value × List UInt8), IsBlk w q [v] 47 ∧ Sl w 26 1 v its.length (its.map (·.1)) ∧ q ∉ own v ∧ (∀ x ∈ its, Sl w 5 1 x.1 x.2.length (cb x.2) ∧ ∀ g ∈ own x.1, g ∉ K) ∧
    L = its.map (·.2) ∧ K = q :: own v ∧ F = K ++ its.flatMap (fun x => own x.1)
section
variable {w w' : World} {q : Nat} {K F ks : List Nat} {L : List (List UInt8)}
theorem IsNet.touch (h : IsNet w q K F L) (hk : Touch ks w w') (hn : ∀ g ∈ F, g ∉ ks) : IsNet w' q K F L := by
  obtain ⟨v, its, h1, h2, h3, h4, rfl, rfl, rfl⟩ := h
  refine ⟨v, its, h1.touch hk (hn q (by simp)), h2.touch hk (fun g hg => hn g (by simp [hg])), h3, fun x hx => ⟨(h4 x hx).1.touch hk (fun g hg => hn g ?_), (h4 x hx).2⟩, rfl, rfl, rfl⟩
  exact List.mem_append_right _ (List.mem_flatMap.2 ⟨x, hx, hg⟩)
theorem IsNet.lt (h : IsNet w q K F L) : ∀ g ∈ F, g < w.heap.size := by
  obtain ⟨v, its, h1, h2, h3, h4, rfl, rfl, rfl⟩ := h
  intro g hg
  rcases List.mem_append.1 hg with hg | hg
  · rcases List.mem_cons.1 hg with rfl | hg
    · exact h1.lt
    · exact h2.lt g hg
  · obtain ⟨x, hx, hg⟩ := List.mem_flatMap.1 hg
    exact (h4 x hx).1.lt g hg
theorem IsNet.sub (h : IsNet w q K F L) : ∀ g ∈ K, g ∈ F := by
  obtain ⟨v, its, h1, h2, h3, h4, rfl, rfl, rfl⟩ := h
  intro g hg
  exact List.mem_append_left _ hg
end

theorem newNet_any (w : World) : Calls Try.prog 11 #[] w fun e w' => e = .returned (.pointer (some ⟨w.heap.size, 0, none⟩)) ∧ IsNet w' w.heap.size [w.heap.size] [w.heap.size] [] ∧ Touch [] w w' := by
  go_enter Try.func11, Try.ntmps11
  go_wp2_with fail
  go_ret
  exact ⟨rfl, ⟨.slice none 0 0, [], IsBlk.new w _ _, Sl.nil _ _ _, by simp, by simp, rfl, rfl, rfl⟩, (Touch.refl _ _).alloc _⟩

theorem netLen_any (w : World) (q : Nat) (K F : List Nat) (L : List (List UInt8)) (h : IsNet w q K F L) :
    Calls Try.prog 16 #[.pointer (some ⟨q, 0, none⟩)] w fun e w' => e = .returned (.int .i64 L.length) ∧ w = w' := by
  obtain ⟨v, its, h1, h2, h3, h4, rfl, rfl, rfl⟩ := h
  rw [List.length_map]
  have c1 := h1.cell 0
  simp only [List.getElem?_cons_zero] at c1
  rcases h2.cases with ⟨rfl, h0, _⟩ | ⟨g, off, cap, rfl, _⟩
  · rw [h0]
    clear h2 h0 h1 h3 h4
    go_enter Try.func16, Try.ntmps16
    go_wp2_with fail
    go_ret
    exact ⟨rfl, rfl⟩
  · clear h2 h1 h3 h4
    go_enter Try.func16, Try.ntmps16
    go_wp2_with fail
    go_ret
    exact ⟨rfl, rfl⟩

/-- Is there such a place? -/
def hasB (i : Int) (n : Nat) : Bool := decide (0 ≤ i) && decide (i < (n : Int))
theorem has_any (w : World) (q : Nat) (K F : List Nat) (L : List (List UInt8)) (i : Int) (h : IsNet w q K F L) :
    Calls Try.prog 18 #[.pointer (some ⟨q, 0, none⟩), .int .i64 i] w fun e w' => e = .returned (.bool (hasB i L.length)) ∧ w = w' := by
  obtain ⟨v, its, h1, h2, h3, h4, rfl, rfl, rfl⟩ := h
  rw [List.length_map]
  have c1 := h1.cell 0
  simp only [List.getElem?_cons_zero] at c1
  obtain ⟨a, c, rfl, _⟩ := h2.form
  clear h2 h1 h3 h4
  by_cases hi : 0 ≤ i
  · have hi' : decide (0 ≤ i) = true := by simpa using hi
    go_enter Try.func18, Try.ntmps18
    go_wp2_with fail
    go_ret
    exact ⟨by simp [hasB, hi'], rfl⟩
  · have hi' : decide (0 ≤ i) = false := by simpa using hi
    go_enter Try.func18, Try.ntmps18
    go_wp2_with fail
    go_ret
    exact ⟨by simp [hasB, hi'], rfl⟩
theorem hasB_yes {i : Int} {n : Nat} (h : hasB i n = true) : ∃ k : Nat, i = (k : Int) ∧ k < n := by
  simp [hasB] at h
  exact ⟨i.toNat, by omega, by omega⟩

/-- What Pull leaves where there is such a datagram. -/
def Pulled (w : World) (q : Nat) (K F : List Nat) (L : List (List UInt8)) (k : Nat) (e : Ending) (w' : World) : Prop :=
  ∃ a c F', e = .returned (.tuple #[.slice a (L.getD k []).length c, .bool true]) ∧ Sl w' 5 1 (.slice a (L.getD k []).length c) (L.getD k []).length (cb (L.getD k [])) ∧ (∀ g ∈ own (.slice a (L.getD k []).length c), g ∈ F ∧ g ∉ K) ∧
    IsNet w' q K F' (L.eraseIdx k) ∧ Touch K w w' ∧ ∀ g ∈ F', g ∈ F

theorem erase_map {α β : Type} (f : α → β) : ∀ (l : List α) (k : Nat), (l.map f).eraseIdx k = (l.eraseIdx k).map f
  | [], k => by simp
  | a :: l, 0 => rfl
  | a :: l, k + 1 => by simp [erase_map f l k]
theorem pulled_end {w w1 : World} {q k g off cap : Nat} {its : List (Value × List UInt8)} {a : Option Addr} {c : Nat} {b : List UInt8} {e : Ending}
    (h1 : IsBlk w q [.slice (some ⟨g, off, none⟩) its.length cap] 47) (h3 : q ∉ own (.slice (some ⟨g, off, none⟩) its.length cap)) (hcap : 0 < cap)
    (h4 : ∀ x ∈ its, Sl w 5 1 x.1 x.2.length (cb x.2) ∧ ∀ r ∈ own x.1, r ∉ q :: own (.slice (some ⟨g, off, none⟩) its.length cap)) (hk : its[k]? = some (.slice a b.length c, b))
    (hs : Sl w1 26 1 (.slice (some ⟨g, off, none⟩) (its.length - 1) cap) (its.length - 1) ((its.map (·.1)).eraseIdx k)) (ht : Touch [g] w w1) (he : e = .returned (.tuple #[.slice a b.length c, .bool true])) :
    Pulled w q (q :: own (.slice (some ⟨g, off, none⟩) its.length cap)) (q :: own (.slice (some ⟨g, off, none⟩) its.length cap) ++ its.flatMap (fun x => own x.1)) (its.map (·.2)) k e (w1.setCell ⟨q, 0, none⟩ (.slice (some ⟨g, off, none⟩) (its.length - 1) cap)) := by
  have hkl : k < its.length := (List.getElem?_eq_some_iff.1 hk).1
  have hmem : (.slice a b.length c, b) ∈ its := List.mem_of_getElem? hk
  have hd : (its.map (·.2)).getD k [] = b := by simp [hk]
  have ho : own (.slice (some ⟨g, off, none⟩) its.length cap) = [g] := own_some _ _ _ hcap
  have ho2 : own (.slice (some ⟨g, off, none⟩) (its.length - 1) cap) = [g] := own_some _ _ _ hcap
  rw [ho] at h3 h4
  have hqg : q ≠ g := by simpa using h3
  have hT2 : Touch [q] w1 (w1.setCell ⟨q, 0, none⟩ (.slice (some ⟨g, off, none⟩) (its.length - 1) cap)) := (Touch.refl [q] _).set (p := ⟨q, 0, none⟩) (.inl (by simp)) _
  have hT : Touch [q, g] w (w1.setCell ⟨q, 0, none⟩ (.slice (some ⟨g, off, none⟩) (its.length - 1) cap)) := (ht.mono (by simp)).trans hT2 (by simp)
  have hsub : ∀ x ∈ its.eraseIdx k, x ∈ its := fun x hx => List.mem_of_mem_eraseIdx hx
  rw [ho]
  refine ⟨a, c, [q, g] ++ (its.eraseIdx k).flatMap (fun x => own x.1), by rw [hd]; exact he, ?_, ?_, ⟨_, its.eraseIdx k, ((h1.touch ht (by simpa using hqg)).set 0 _), ?_, by rw [ho2]; simpa using hqg, fun x hx => ⟨(h4 x (hsub x hx)).1.touch hT (h4 x (hsub x hx)).2, (h4 x (hsub x hx)).2⟩, ?_, by rw [ho2], rfl⟩, hT, ?_⟩
  · rw [hd]
    exact (h4 _ hmem).1.touch hT (h4 _ hmem).2
  · rw [hd]
    intro r hr
    exact ⟨List.mem_append_right _ (List.mem_flatMap.2 ⟨_, hmem, hr⟩), (h4 _ hmem).2 r hr⟩
  · rw [List.length_eraseIdx_of_lt hkl, ← erase_map]
    exact hs.touch hT2 (fun r hr => by rw [ho2] at hr; simp at hr ⊢; omega)
  · rw [erase_map]
  · intro r hr
    rcases List.mem_append.1 hr with h | h
    · exact List.mem_append_left _ h
    · obtain ⟨x, hx, hr⟩ := List.mem_flatMap.1 h
      exact List.mem_append_right _ (List.mem_flatMap.2 ⟨x, hsub x hx, hr⟩)

theorem has_yes (w : World) (q : Nat) (K F : List Nat) (L : List (List UInt8)) (i : Int) (h : IsNet w q K F L) (hb : hasB i L.length = true) :
    Calls Try.prog 18 #[.pointer (some ⟨q, 0, none⟩), .int .i64 i] w fun e w' => e = .returned (.bool true) ∧ w = w' := by
  have := has_any w q K F L i h
  rw [hb] at this
  exact this
theorem has_no (w : World) (q : Nat) (K F : List Nat) (L : List (List UInt8)) (i : Int) (h : IsNet w q K F L) (hb : hasB i L.length = false) :
    Calls Try.prog 18 #[.pointer (some ⟨q, 0, none⟩), .int .i64 i] w fun e w' => e = .returned (.bool false) ∧ w = w' := by
  have := has_any w q K F L i h
  rw [hb] at this
  exact this

theorem netPull_no (w : World) (q : Nat) (K F : List Nat) (L : List (List UInt8)) (i : Int) (h : IsNet w q K F L) (hb : hasB i L.length = false) :
    Calls Try.prog 13 #[.pointer (some ⟨q, 0, none⟩), .int .i64 i] w fun e w' => e = .returned (.tuple #[.slice none 0 0, .bool false]) ∧ w = w' := by
  have H := Lib.hid h
  have HB := Lib.hid hb
  clear h hb
  go_enter Try.func13, Try.ntmps13
  go_wp2_with fail
  refine (has_no _ q K F L i H.out HB.out).mono ?_
  rintro e w1 ⟨rfl, rfl⟩
  go_wp2_with fail
  go_ret2
  exact ⟨rfl, rfl⟩

theorem netPull_yes (w : World) (q : Nat) (K F : List Nat) (L : List (List UInt8)) (k : Nat) (h : IsNet w q K F L) (hk : k < L.length) (hL : L.length ≤ 1099511627776) :
    Calls Try.prog 13 #[.pointer (some ⟨q, 0, none⟩), .int .i64 (k : Int)] w (Pulled w q K F L k) := by
  have H := Lib.hid h
  have HB := Lib.hid (show hasB (k : Int) L.length = true from by simp [hasB, hk])
  obtain ⟨v, its, h1, h2, h3, h4, rfl, rfl, rfl⟩ := h
  rw [List.length_map] at hk hL
  rcases h2.cases with ⟨rfl, h0, _⟩ | ⟨g, off, cap, rfl, hnc, _, hlt, hcell, _⟩
  · omega
  have hcap : 0 < cap := by omega
  obtain ⟨x, hx⟩ : ∃ x, its[k]? = some x := ⟨_, List.getElem?_eq_getElem hk⟩
  obtain ⟨u, b⟩ := x
  have hmem : (u, b) ∈ its := List.mem_of_getElem? hx
  obtain ⟨a, c, hu, _⟩ := (h4 _ hmem).1.form
  simp at hu
  subst hu
  have c1 := h1.cell 0
  simp only [List.getElem?_cons_zero] at c1
  have c2 : w.cell? ⟨g, off + k, none⟩ = some (.slice a b.length c) := by
    rw [hcell k (by omega)]
    simp [hx]
  have hdel := delete_any w g off cap its.length k (its.map (·.1)) h2 hk (fun u hu => by
    obtain ⟨x, hx, rfl⟩ := List.mem_map.1 hu
    obtain ⟨a, c, he, _⟩ := (h4 x hx).1.form
    rw [he]
    rfl)
  have HDel := Lib.hid hdel
  have H1 := Lib.hid h1
  have H3 := Lib.hid h3
  have H4 := Lib.hid h4
  have HX := Lib.hid hx
  have HK := Lib.hid hk
  have hqg : q ≠ g := by rw [own_some _ _ _ hcap] at h3; simpa using h3
  have HQG := Lib.hid hqg
  clear h1 h2 h3 h4 hcell hdel hx hmem hqg hlt
  go_enter Try.func13, Try.ntmps13
  go_wp2_with fail
  refine (has_yes _ q _ _ _ _ H.out HB.out).mono ?_
  rintro e w1 ⟨rfl, rfl⟩
  go_wp2_with fail
  refine HDel.out.mono ?_
  rintro e w1 ⟨rfl, hs, ht⟩
  have I1 := H1.out.touch ht (by simpa using HQG.out)
  have d1 := I1.cell 0
  have d2 := I1.frozen 0
  simp only [List.getElem?_cons_zero] at d1
  have HS := Lib.hid hs
  have HT := Lib.hid ht
  clear I1 hs ht
  go_wp2_with fail
  go_ret2
  exact pulled_end H1.out H3.out hcap H4.out HX.out HS.out HT.out rfl

theorem netDrop_no (w : World) (q : Nat) (K F : List Nat) (L : List (List UInt8)) (i : Int) (h : IsNet w q K F L) (hb : hasB i L.length = false) :
    Calls Try.prog 14 #[.pointer (some ⟨q, 0, none⟩), .int .i64 i] w fun e w' => e = .returned (.bool false) ∧ w = w' := by
  have H := Lib.hid h
  have HB := Lib.hid hb
  clear h hb
  go_enter Try.func14, Try.ntmps14
  go_wp2_with fail
  refine (netPull_no _ q K F L i H.out HB.out).mono ?_
  rintro e w1 ⟨rfl, rfl⟩
  go_wp2_with fail
  go_ret
  exact ⟨rfl, rfl⟩
theorem netDrop_yes (w : World) (q : Nat) (K F : List Nat) (L : List (List UInt8)) (k : Nat) (h : IsNet w q K F L) (hk : k < L.length) (hL : L.length ≤ 1099511627776) :
    Calls Try.prog 14 #[.pointer (some ⟨q, 0, none⟩), .int .i64 (k : Int)] w fun e w' => e = .returned (.bool true) ∧ ∃ F', IsNet w' q K F' (L.eraseIdx k) ∧ Touch K w w' ∧ ∀ g ∈ F', g ∈ F := by
  have H := Lib.hid h
  have HK := Lib.hid hk
  have HL := Lib.hid hL
  clear h hk hL
  go_enter Try.func14, Try.ntmps14
  go_wp2_with fail
  refine (netPull_yes _ q K F L k H.out HK.out HL.out).mono ?_
  rintro e w1 ⟨a, c, F', rfl, h1, h2, h3, h4, h5⟩
  have H3 := Lib.hid h3
  have H4 := Lib.hid h4
  have H5 := Lib.hid h5
  clear h1 h2 h3 h4 h5
  go_wp2_with fail
  go_ret
  exact ⟨rfl, F', H3.out, H4.out, H5.out⟩
end Go.Proofs.Ytaklbobmbobcaaa
