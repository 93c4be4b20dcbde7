/- What a slice of fields reads as. Conditions: none of their own. -/
import Derived.Test.YtfkmcbkhodppmaaY
import Derived.ProofKit
import Derived.OpenShut
import Derived.SizedLaws
import Derived.Deep.SlicePairs
namespace Go.Proofs.Ytfkmcbkhodppmaa
open Go.ChangeShapes Go.WideShapes Go.ChangeAt Go.RowKit Go.Deep

theorem weightsAll_mem {H : Type} {P : Program} {e : TypeId} {d : DataW H} {n : Nat} : ∀ (l : List (DataW H)), d ∈ l → n ∈ d.weights P e → n ∈ DataW.weightsAll P e l
  | x :: l, hd, hn => by
    simp only [DataW.weightsAll, List.mem_append]
    rcases List.mem_cons.1 hd with rfl | h
    · exact .inl hn
    · exact .inr (weightsAll_mem l h hn)

theorem flds2 : ∃ f0 f1, Try.prog.underlying 26 = some (.struct #[f0, f1]) ∧ f0.offset = 0 ∧ f1.offset = 1 ∧ f0.type = 9 ∧ f1.type = 9 := by
  have h0 : (match Try.prog.underlying 26 with | some (.struct fs) => fs.size | _ => 0) = 2 := by kernel_rfl
  have h1 : (match Try.prog.underlying 26 with | some (.struct fs) => fs.toList.map (fun f => (f.offset, f.type)) | _ => []) = [(0, 9), (1, 9)] := by kernel_rfl
  generalize Try.prog.underlying 26 = u at h0 h1
  cases u with
  | none => simp at h0
  | some d =>
    cases d <;> try (simp at h0; done)
    rename_i fs
    obtain ⟨l⟩ := fs
    simp at h0 h1
    obtain ⟨f, g, rfl⟩ := two_of l h0
    simp at h1
    exact ⟨f, g, rfl, h1.1.1, h1.2.1, h1.1.2, h1.2.2⟩
theorem cells26 : Try.prog.cellsOf 26 = 2 := by kernel_rfl
theorem cells9 : Try.prog.cellsOf 9 = 1 := by kernel_rfl
theorem bytes26 : Try.prog.bytesOf 26 = 32 := by kernel_rfl

/-- The fields xs lie from a on. -/
def IsF (w : World) (a : Option Addr) (xs : List Fld) : Prop :=
  xs = [] ∨ ∃ b off, a = some ⟨b, off, none⟩ ∧ b < w.heap.size ∧ ∀ i, i < xs.length → w.cell? ⟨b, off + i * 2, none⟩ = some (.string (xs.getD i default).1) ∧ w.cell? ⟨b, off + i * 2 + 1, none⟩ = some (.string (xs.getD i default).2)
theorem IsF.rd {w : World} {a : Option Addr} {xs : List Fld} {cap : Nat} (h : IsF w a xs) (hc : xs.length ≤ cap) : Rd w 2 (.slice a xs.length cap) xs.length (cf xs) := by
  refine ⟨cf_len xs, ?_⟩
  rcases h with rfl | ⟨b, off, rfl, hl, h⟩
  · exact .inl ⟨a, cap, rfl, rfl⟩
  · refine .inr ⟨b, off, cap, rfl, hc, fun _ => hl, fun j hj => ?_⟩
    obtain ⟨i, hi | hi⟩ : ∃ i, j = i * 2 ∨ j = i * 2 + 1 := ⟨j / 2, by omega⟩
    · subst hi
      have hx : xs[i]? = some (xs.getD i default) := by rw [List.getD_eq_getElem?_getD, List.getElem?_eq_getElem (by omega)]; rfl
      rw [(h i (by omega)).1, (cf_at xs i _ hx).1]
    · subst hi
      have hx : xs[i]? = some (xs.getD i default) := by rw [List.getD_eq_getElem?_getD, List.getElem?_eq_getElem (by omega)]; rfl
      rw [← Nat.add_assoc, (h i (by omega)).2, (cf_at xs i _ hx).2]
theorem open_flds {H : Type} {enc : TypeId × Value → H} {W : World} {base : Nat} {v : Value} {d : DataW H} {p : List MemPlace} (hok : Value.okWide Try.prog W .any base 23 v)
    (h : DataW.Trod enc Try.prog W 0 (fun _ => true) true 23 v d p) (hz : ∀ n ∈ d.weights Try.prog 23, n ≤ reachBytes) :
    ∃ a xs cap, v = .slice a xs.length cap ∧ IsF W a xs ∧ xs.length ≤ cap ∧ xs.length ≤ 4398046511104 ∧ ∀ x ∈ xs, x.1.size ≤ 140737488355328 ∧ x.2.size ≤ 140737488355328 := by
  obtain ⟨a0, len0, cap0, rfl⟩ := okWide_slice Try.underlying23 hok
  obtain ⟨fuel, hf⟩ := h
  obtain ⟨f0, f1, hu, o0, o1, t0, t1⟩ := flds2
  rcases open_slice_pairs Try.underlying23 hu cells26 o0 o1 (by rw [t0]; exact cells9) (by rw [t1]; exact cells9) hf with ⟨hcs, hx⟩ | ⟨a, len, cap, m, n, V0, V1, D0, D1, P0, P1, hcs, _, hl, hm, hmm, hx, hc⟩
  · simp [Value.cells] at hcs
    obtain ⟨rfl, rfl, rfl⟩ := hcs
    exact ⟨none, [], 0, rfl, .inl rfl, Nat.le_refl _, by simp, by simp⟩
  · simp [Value.cells] at hcs
    obtain ⟨rfl, rfl, rfl⟩ := hcs
    obtain ⟨hd, -⟩ := Prod.mk.inj hx
    subst hd
    have hmlen : len0 ≤ m := by rw [hmm]; split <;> omega
    have key : ∀ i, i < len0 → ∃ x : Fld, V0 i = .string x.1 ∧ V1 i = .string x.2 ∧ D0 i = .lit (.string x.1.data.toList) ∧ D1 i = .lit (.string x.2.data.toList) := by
      intro i hi
      obtain ⟨_, _, h0, h1⟩ := hc i (by omega)
      rw [t0] at h0
      rw [t1] at h1
      obtain ⟨s0, e0, g0, _⟩ := DataW.trod_string Try.underlying9 h0
      obtain ⟨s1, e1, g1, _⟩ := DataW.trod_string Try.underlying9 h1
      simp at e0 e1 g0 g1
      exact ⟨(s0, s1), e0, e1, g0.1, g1.1⟩
    obtain ⟨X, hX⟩ := choose_lt key
    refine ⟨some a, (List.range len0).map X, cap0, by simp, ?_, by simpa using hl, ?_, ?_⟩
    · by_cases h0 : len0 = 0
      · left; simp [h0]
      · right
        obtain ⟨b, off, spot⟩ := a
        have hc0 := (hc 0 (by omega)).1
        have hspot : spot = none := by simpa [Addr.add] using World.cell?_spot hc0
        subst hspot
        refine ⟨b, off, rfl, ?_, ?_⟩
        · have := World.block_lt_of_cell? W _ hc0
          simpa [Addr.add] using this
        · intro i hi
          have hi' : i < len0 := by simpa using hi
          have hci := hc i (by omega)
          have e1 : ∀ j, (⟨b, off, none⟩ : Addr).add j = ⟨b, off + j, none⟩ := fun j => by unfold Addr.add; split <;> simp_all
          rw [e1, e1] at hci
          rw [Nat.add_assoc]
          simp only [List.getD_eq_getElem?_getD, List.getElem?_map, List.getElem?_range hi', Option.map_some, Option.getD_some]
          rw [hci.1, hci.2.1, (hX i hi').1, (hX i hi').2.1]
          exact ⟨rfl, rfl⟩
    · have := hz (((List.range len0).map fun i => DataW.agg [D0 i, D1 i]).length * Try.prog.bytesOf 26 + ((List.range (m - len0)).map fun j => DataW.agg [D0 (len0 + j), D1 (len0 + j)]).length * Try.prog.bytesOf 26) (by
        simp only [DataW.weights, Try.underlying23, List.mem_cons]
        left; rw [Nat.add_mul])
      rw [bytes26] at this
      simp [reachBytes] at this ⊢
      omega
    · intro x hx
      obtain ⟨i, hi, rfl⟩ := List.mem_map.1 hx
      have hi' : i < len0 := by simpa using hi
      have hXi := hX i hi'
      have hmem : ∀ n, n ∈ (DataW.agg [D0 i, D1 i] : DataW H).weights Try.prog 26 → n ≤ reachBytes := by
        intro n hn
        refine hz n ?_
        simp only [DataW.weights, Try.underlying23, List.mem_cons, List.mem_append]
        right; left
        exact weightsAll_mem _ (List.mem_map.2 ⟨i, by simpa using hi', rfl⟩) hn
      have hw : (DataW.agg [D0 i, D1 i] : DataW H).weights Try.prog 26 = [(X i).1.data.toList.length, (X i).2.data.toList.length] := by
        simp only [DataW.weights, hu]
        simp [DataW.weightsEach, hXi.2.2.1, hXi.2.2.2, DataW.weights]
      rw [hw] at hmem
      have h1 := hmem (X i).1.data.toList.length (by simp)
      have h2 := hmem (X i).2.data.toList.length (by simp)
      simp [reachBytes] at h1 h2
      omega
end Go.Proofs.Ytfkmcbkhodppmaa
