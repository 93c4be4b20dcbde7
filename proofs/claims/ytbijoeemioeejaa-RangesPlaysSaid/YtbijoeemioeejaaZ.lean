/- Plain facts on sets that numbers are put into, one by one; a slice of bytes as an argument. Conditions: none of their own. -/
import Derived.Test.YtbijoeemioeejaaO
import Derived.ProofKit
import Derived.OpenShut
import Derived.ChangeSame
import Derived.ChangeSlices
import Derived.ChangeOld
namespace Go.Proofs.Ytbijoeemioeejaa
open Go.ChangeShapes Go.WideShapes Go.ChangeAt Go.RowKit

/-- A number is put in. -/
def ins (b : Nat) (L : List Rng) (x : Nat) : List Rng := (add1 b (L, 0) x).1
def insL (b : Nat) (ns : List Nat) (L : List Rng) : List Rng := ns.foldl (ins b) L
theorem ins_one (b : Nat) (L : List Rng) (x : Nat) : (addL b [x] (L, 0)).1 = ins b L x := rfl
theorem ins_eq (b : Nat) (L : List Rng) (x : Nat) : ins b L x = if x ≤ mx ∧ b ≤ x ∧ hasB x L = false then spOp L b x x else L := by
  unfold ins add1
  split <;> rfl
theorem ins_V {b : Nat} {L : List Rng} (h : V L b) (x : Nat) : V (ins b L x) b := by
  rw [ins_eq]
  split
  · exact spOp_V h x x
  · exact h
theorem spOp_self (L : List Rng) (b x : Nat) (h1 : x ≤ mx) (h2 : b ≤ x) : spOp L b x x = sp L x x := by
  unfold spOp
  rw [show max x b = x from by omega, show min x mx = x from by omega, if_pos (Nat.le_refl _)]
theorem ins_mem {b : Nat} {L : List Rng} (h : V L b) (x n : Nat) : inR n (ins b L x) ↔ inR n L ∨ (n = x ∧ x ≤ mx ∧ b ≤ x) := by
  rw [ins_eq]
  split
  · next hc =>
    rw [spOp_self L b x hc.1 hc.2.1, sp_mem n L b x x h (Nat.le_refl _)]
    constructor
    · rintro (h | h)
      · exact .inl h
      · exact .inr ⟨by omega, hc.1, hc.2.1⟩
    · rintro (h | h)
      · exact .inl h
      · exact .inr (by omega)
  · next hc =>
    constructor
    · exact .inl
    · rintro (h | ⟨rfl, h1, h2⟩)
      · exact h
      · have : hasB n L = true := by
          cases hh : hasB n L with
          | true => rfl
          | false => exact absurd ⟨h1, h2, hh⟩ hc
        exact (hasB_iff n L).1 this
theorem insL_V {b : Nat} : ∀ (ns : List Nat) {L : List Rng}, V L b → V (insL b ns L) b
  | [], _, h => h
  | x :: ns, _, h => insL_V ns (ins_V h x)
theorem insL_mem {b : Nat} : ∀ (ns : List Nat) {L : List Rng} (_ : V L b) (n : Nat), inR n (insL b ns L) ↔ inR n L ∨ (n ∈ ns ∧ n ≤ mx ∧ b ≤ n)
  | [], L, _, n => by simp [insL]
  | x :: ns, L, h, n => by
    rw [show insL b (x :: ns) L = insL b ns (ins b L x) from rfl, insL_mem ns (ins_V h x) n, ins_mem h x n]
    constructor
    · rintro ((h | ⟨rfl, h⟩) | h)
      · exact .inl h
      · exact .inr ⟨by simp, h⟩
      · exact .inr ⟨by simp [h.1], h.2⟩
    · rintro (h | ⟨h1, h2⟩)
      · exact .inl (.inl h)
      · rcases List.mem_cons.1 h1 with rfl | h1
        · exact .inl (.inr ⟨rfl, h2⟩)
        · exact .inr ⟨h1, h2⟩
theorem insL_snoc (b : Nat) (ns : List Nat) (L : List Rng) (k x : Nat) (hx : ns[k]? = some x) : insL b (ns.take (k + 1)) L = ins b (insL b (ns.take k) L) x := by
  unfold insL
  rw [List.take_add_one, hx, List.foldl_append]
  rfl
theorem ins_len (b : Nat) (L : List Rng) (x : Nat) : (ins b L x).length ≤ L.length + 1 := (add1_len b (L, 0) x).1
theorem insL_len (b : Nat) : ∀ (ns : List Nat) (L : List Rng), (insL b ns L).length ≤ L.length + ns.length
  | [], _ => by simp [insL]
  | x :: ns, L => by
    have h1 := ins_len b L x
    have h2 := insL_len b ns (ins b L x)
    rw [show insL b (x :: ns) L = insL b ns (ins b L x) from rfl]
    simp only [List.length_cons]
    omega
theorem ins_same (b : Nat) (L : List Rng) (x : Nat) (h : b ≤ x) (hx : x ≤ mx) : ins b L x = ins 0 L x := by
  rw [ins_eq, ins_eq]
  by_cases hh : hasB x L = false
  · rw [if_pos ⟨hx, h, hh⟩, if_pos ⟨hx, Nat.zero_le _, hh⟩, spOp_self L b x hx h, spOp_self L 0 x hx (Nat.zero_le _)]
  · rw [if_neg (fun h => hh h.2.2), if_neg (fun h => hh h.2.2)]
theorem ins_not (b : Nat) (L : List Rng) (x : Nat) (h : x < b) : ins b L x = L ∧ (addL b [x] (L, 0)).2 = 0 := by
  refine ⟨by rw [ins_eq, if_neg (by omega)], ?_⟩
  simp only [addL, List.foldl_cons, List.foldl_nil, add1]
  rw [if_neg (by omega)]
/-- A slice of bytes as an argument. -/
theorem open_u8s {H : Type} {enc : TypeId × Value → H} {W : World} {base : Nat} {v : Value} {d : DataW H} {p : List MemPlace} (hok : Value.okWide Try.prog W .any base 45 v)
    (h : DataW.Trod enc Try.prog W 0 (fun _ => true) true 45 v d p) (_ : ∀ n ∈ d.weights Try.prog 45, n ≤ reachBytes) :
    ∃ (a : Option Addr) (zs : List Int) (cap : Nat), v = .slice a zs.length cap ∧ Rd W 1 v zs.length (zs.map (Value.int .u8)) ∧ ∀ z ∈ zs, 0 ≤ z ∧ z ≤ 255 := by
  obtain ⟨a0, len0, cap0, rfl⟩ := okWide_slice Try.underlying45 hok
  obtain ⟨fuel, hf⟩ := h
  rcases open_ints Try.underlying45 Try.underlying5 (by kernel_rfl) hf with ⟨hcs, _⟩ | ⟨a, len, cap, zs, hcs, _, hl, hm, hlen, _, hc, hw⟩
  · simp [Value.cells] at hcs
    obtain ⟨rfl, rfl, rfl⟩ := hcs
    exact ⟨none, [], 0, rfl, ⟨rfl, .inl ⟨none, 0, rfl, rfl⟩⟩, by simp⟩
  · simp [Value.cells] at hcs
    obtain ⟨rfl, rfl, rfl⟩ := hcs
    have hle : len0 ≤ zs.length := by rw [hlen]; split <;> omega
    have hb : ∀ n ∈ zs, 0 ≤ n ∧ n ≤ 255 := fun n hn => bounds_u8 (hw n hn)
    have hl2 : (zs.take len0).length = len0 := by simp; omega
    refine ⟨some a, zs.take len0, cap0, by rw [hl2], ?_, fun z hz => hb z (List.mem_of_mem_take hz)⟩
    rw [hl2]
    refine ⟨by simp; omega, ?_⟩
    obtain ⟨b, off, spot⟩ := a
    by_cases h0 : len0 = 0
    · subst h0
      exact .inl ⟨_, _, rfl, rfl⟩
    · have hc0 := hc 0 (by omega)
      have hspot : spot = none := by simpa [Addr.add] using World.cell?_spot hc0
      subst hspot
      refine .inr ⟨b, off, cap0, rfl, hl, fun _ => ?_, fun j hj => ?_⟩
      · have := World.block_lt_of_cell? W _ hc0
        simpa [Addr.add] using this
      · have := hc j (by omega)
        rw [Addr.add_lit] at this
        rw [this]
        have hjl : j < zs.length := by omega
        simp [hjl, show j < len0 from by omega]
/-- Bytes as natural numbers. -/
def bs (ns : List Nat) : List Value := ns.map fun n : Nat => Value.int .u8 (n : Int)
theorem bs_of (zs : List Int) (h : ∀ z ∈ zs, 0 ≤ z ∧ z ≤ 255) : ∃ ns : List Nat, zs.length = ns.length ∧ zs.map (Value.int .u8) = bs ns ∧ ∀ n ∈ ns, n < 256 := by
  refine ⟨zs.map Int.toNat, by simp, ?_, ?_⟩
  · unfold bs
    rw [List.map_map]
    refine List.map_congr_left fun z hz => ?_
    have := h z hz
    simp only [Function.comp]
    rw [Int.toNat_of_nonneg this.1]
  · intro n hn
    obtain ⟨z, hz, rfl⟩ := List.mem_map.1 hn
    have := h z hz
    omega
theorem rd_byte {w : World} {a : Option Addr} {n c : Nat} {ns : List Nat} (h : Rd w 1 (.slice a n c) n (bs ns)) (hn : ns.length = n) (i x : Nat) (hx : ns[i]? = some x) :
    ∃ g o, a = Option.some ⟨g, o, none⟩ ∧ w.cell? ⟨g, o + i, none⟩ = some (.int .u8 (x : Int)) ∧ g < w.heap.size := by
  have hi : i < ns.length := (List.getElem?_eq_some_iff.1 hx).1
  rcases h.2 with ⟨_, _, _, h0⟩ | ⟨b, off, cap, he, hnc, hb, hc⟩
  · omega
  simp at he
  obtain ⟨rfl, rfl⟩ := he
  refine ⟨b, off, rfl, ?_, hb (by omega)⟩
  rw [hc i (by omega)]
  simp [bs, hx]
end Go.Proofs.Ytbijoeemioeejaa
