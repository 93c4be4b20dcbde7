/- The contracts of Add on both sides. Conditions: the set and the numbers together are no more than 2^40; the numbers' slice lies in none of the set's blocks. -/
import Derived.Test.YthnokfchebmjiaaRgQ
import Derived.BigRegion
namespace Go.Proofs.Ythnokfchebmjiaa
open Go.RowKit

def add1 (b : Nat) (s : List Rng × Nat) (x : Nat) : List Rng × Nat := if x ≤ mx ∧ b ≤ x ∧ hasB x s.1 = false then (spOp s.1 b x x, s.2 + 1) else s
def addL (b : Nat) (ns : List Nat) (s : List Rng × Nat) : List Rng × Nat := ns.foldl (add1 b) s
def us (ns : List Nat) : List Value := ns.map fun n : Nat => Value.int .u64 (n : Int)
theorem us_len (ns : List Nat) : (us ns).length = ns.length := by simp [us]
theorem addL_snoc (b : Nat) (ns : List Nat) (s : List Rng × Nat) (k x : Nat) (hx : ns[k]? = some x) : addL b (ns.take (k + 1)) s = add1 b (addL b (ns.take k) s) x := by
  unfold addL
  rw [List.take_add_one, hx, List.foldl_append]
  rfl
theorem spOp_len (L : List Rng) (b f l : Nat) : (spOp L b f l).length ≤ L.length + 1 := by
  unfold spOp
  split
  · exact sp_len _ _ _
  · omega
theorem add1_len (b : Nat) (s : List Rng × Nat) (x : Nat) : (add1 b s x).1.length ≤ s.1.length + 1 ∧ (add1 b s x).2 ≤ s.2 + 1 := by
  unfold add1
  split
  · exact ⟨spOp_len _ _ _ _, Nat.le_refl _⟩
  · exact ⟨by omega, by omega⟩
theorem addL_len (b : Nat) : ∀ (ns : List Nat) (s : List Rng × Nat), (addL b ns s).1.length ≤ s.1.length + ns.length ∧ (addL b ns s).2 ≤ s.2 + ns.length
  | [], s => ⟨by simp [addL], by simp [addL]⟩
  | x :: ns, s => by
    have h1 := add1_len b s x
    have h2 := addL_len b ns (add1 b s x)
    rw [show addL b (x :: ns) s = addL b ns (add1 b s x) from rfl]
    simp only [List.length_cons]
    omega
/-- The cell of an element. -/
theorem rd_oneAt {w : World} {a : Option Addr} {n c : Nat} {ns : List Nat} (h : Rd w 1 (.slice a n c) n (us ns)) (hn : ns.length = n) (i x : Nat) (hx : ns[i]? = some x) :
    ∃ g o, a = Option.some ⟨g, o, none⟩ ∧ w.cell? ⟨g, o + i, none⟩ = some (.int .u64 (x : Int)) ∧ g < w.heap.size := by
  have hi : i < ns.length := (List.getElem?_eq_some_iff.1 hx).1
  rcases h.2 with ⟨_, _, _, h0⟩ | ⟨b, off, cap, he, hnc, hb, hc⟩
  · omega
  simp at he
  obtain ⟨rfl, rfl⟩ := he
  refine ⟨b, off, rfl, ?_, hb (by omega)⟩
  rw [hc i (by omega)]
  simp [us, hx]
/-- What Add makes of a set. -/
def Grown (w : World) (p : Nat) (t : TypeId) (F : List Nat) (L : List Rng) (b : Nat) (w' : World) : Prop := ∃ F', IsS w' p t F' L b ∧ Touch F w w' ∧ ∀ g ∈ F', g ∈ F ∨ w.heap.size ≤ g
theorem Grown.refl {w : World} {p : Nat} {t : TypeId} {F : List Nat} {L : List Rng} {b : Nat} (h : IsS w p t F L b) : Grown w p t F L b w := ⟨F, h, Touch.refl _ _, fun _ hg => .inl hg⟩
theorem Grown.keep {w w1 w2 : World} {p : Nat} {t : TypeId} {F : List Nat} {L : List Rng} {b : Nat} (h : Grown w p t F L b w1) (k : Touch [] w1 w2) : Grown w p t F L b w2 := by
  obtain ⟨F', h1, h2, h3⟩ := h
  exact ⟨F', h1.keep k, h2.trans k (fun _ h => by cases h), h3⟩
theorem Grown.more {w w1 w2 : World} {p : Nat} {t : TypeId} {F F' : List Nat} {L : List Rng} {b : Nat} (hT : Touch F w w1) (hF : ∀ g, g ∈ F' → g ∈ F ∨ w.heap.size ≤ g)
    (h : Grown w1 p t F' L b w2) : Grown w p t F L b w2 := by
  obtain ⟨F2, h1, h2, h3⟩ := h
  exact ⟨F2, h1, hT.trans h2 hF, fun g hg => (h3 g hg).elim (fun h => hF g h) (fun h => .inr (Nat.le_trans hT.size h))⟩
theorem Grown.touch {w w1 : World} {p : Nat} {t : TypeId} {F : List Nat} {L : List Rng} {b : Nat} (h : Grown w p t F L b w1) : Touch F w w1 := by
  obtain ⟨_, _, h2, _⟩ := h
  exact h2

set_option maxHeartbeats 2000000 in
theorem add_any (w : World) (p : Nat) (F : List Nat) (L : List Rng) (b : Nat) (a : Option Addr) (n c : Nat) (ns : List Nat) (h : IsS w p 79 F L b) (hv : Rd w 1 (.slice a n c) n (us ns)) (hn : ns.length = n) (hd : ∀ g ∈ own (.slice a n c), g ∉ F)
    (hb : L.length + n ≤ 1099511627776) (hlt : ∀ x ∈ ns, x < 18446744073709551616) :
    Calls Try.prog 22 #[.pointer (some ⟨p, 0, none⟩), .slice a n c] w fun e w' => e = .returned (.int .i64 ((addL b ns (L, 0)).2 : Int)) ∧ Grown w p 79 F (addL b ns (L, 0)).1 b w' := by
  have HH := Lib.hid h
  have HR := Lib.hid hv
  have HD := Lib.hid hd
  have HL := Lib.hid hlt
  have HN := Lib.hid hn
  have hbx : b ≤ 4611686018427387903 := h.v.2
  clear h hv hd hlt hn
  go_enter Try.func22, Try.ntmps22
  go_wp2_with fail
  go_loopw [10, 5] (fun i m wr => ∃ k : Nat, k ≤ n ∧ i = .int .i64 (k : Int) ∧ m = .int .i64 ((addL b (ns.take k) (L, 0)).2 : Int) ∧ Hid (Grown w p 79 F (addL b (ns.take k) (L, 0)).1 b wr)) (fun i _ _ => n - (intOf i).toNat)
  case atStart => exact ⟨0, by omega, by simp, by simp [addL], Lib.hid (Grown.refl HH.out)⟩
  case round =>
    obtain ⟨k, hk, rfl, rfl, HG⟩ := hrel
    have hlen := addL_len b (ns.take k) (L, 0)
    rw [List.length_take] at hlen
    by_cases hlt : k < n
    · obtain ⟨x, hx⟩ : ∃ x, ns[k]? = some x := ⟨_, List.getElem?_eq_getElem (by have := HN.out; omega)⟩
      have HS := Lib.hid (addL_snoc b ns (L, 0) k x hx)
      have hng := addL_len b (ns.take k) (L, 0)
      generalize hM : addL b (ns.take k) (L, 0) = Mm at *
      obtain ⟨M, m⟩ := Mm
      have HM := Lib.hid hM
      obtain ⟨F', h1, h2, h3⟩ := HG.out
      have HI := Lib.hid h1
      have HT := Lib.hid h2
      have H3 := Lib.hid h3
      obtain ⟨g, o, rfl, e1, hg⟩ := rd_oneAt (HR.out.touch h2 HD.out) HN.out k x hx
      obtain ⟨a1, c1, hb1, hb2, hb3, hb4, hb5⟩ := h1
      have d1 := hb1.cell 1
      simp only [List.getElem?_cons_zero, List.getElem?_cons_succ] at d1
      have hpl := hb1.lt
      have hx64 := HL.out x (List.mem_of_getElem? hx)
      simp only at hlen
      clear hM h2 h3 hb1 hb2 hb3 hb4 hb5 hx hng
      have hlt' : (k : Int) < (n : Int) := by omega
      by_cases i1 : (4611686018427387903 : Int) < (x : Int)
      · have HE : Hid (add1 b (M, m) x = (M, m)) := Lib.hid (if_neg (by unfold mx; omega))
        go_wp2_with fail
        go_roundw
        case rel => exact ⟨k + 1, by omega, by go_num, by rw [HS.out, HE.out], Lib.hid (by rw [HS.out, HE.out]; exact HG.out)⟩
        case measure => simp [intOf]; omega
      · by_cases i2 : (x : Int) < (b : Int)
        · have HE : Hid (add1 b (M, m) x = (M, m)) := Lib.hid (if_neg (by omega))
          go_wp2_with fail
          go_roundw
          case rel => exact ⟨k + 1, by omega, by go_num, by rw [HS.out, HE.out], Lib.hid (by rw [HS.out, HE.out]; exact HG.out)⟩
          case measure => simp [intOf]; omega
        · cases hh : hasB x M with
          | true =>
            have HH2 := Lib.hid hh
            have HE : Hid (add1 b (M, m) x = (M, m)) := Lib.hid (if_neg (by simp [hh]))
            clear hh
            go_wp2_with (go_at_call 37; refine (has_any _ p F' M b x HI.out).mono ?_; rw [HH2.out]; rintro e w2 ⟨rfl, hT2⟩; have HT2 := Lib.hid hT2; clear hT2)
            go_roundw
            case rel => exact ⟨k + 1, by omega, by go_num, by rw [HS.out, HE.out], Lib.hid (by rw [HS.out, HE.out]; exact HG.out.keep HT2.out)⟩
            case measure => simp [intOf]; omega
          | false =>
            have HH2 := Lib.hid hh
            have HE : Hid (add1 b (M, m) x = (spOp M b x x, m + 1)) := Lib.hid (if_pos ⟨by unfold mx; omega, by omega, hh⟩)
            clear hh
            go_wp2_with (first | (go_at_call 37; refine (has_any _ p F' M b x HI.out).mono ?_; rw [HH2.out]; rintro e w2 ⟨rfl, hT2⟩; have HT2 := Lib.hid hT2; clear hT2) | (go_at_call 38; refine (span_any w2 p F' M b x x (HI.out.keep HT2.out) (by omega) hx64 hx64).mono ?_; rintro e w3 ⟨rfl, hG3⟩; have HG3 := Lib.hid hG3; clear hG3))
            go_roundw
            case rel => exact ⟨k + 1, by omega, by go_num, by rw [HS.out, HE.out]; go_num, Lib.hid (by rw [HS.out, HE.out]; exact Grown.more (HT.out.trans HT2.out (by simp)) H3.out HG3.out)⟩
            case measure => simp [intOf]; omega
    · obtain rfl : k = n := by omega
      have HE : Hid (ns.take k = ns) := Lib.hid (List.take_of_length_le (by have := HN.out; omega))
      go_wp2_with fail
      go_ret
      have HG2 := HG.out
      rw [HE.out] at HG2 ⊢
      exact ⟨rfl, HG2⟩
end Go.Proofs.Ythnokfchebmjiaa
