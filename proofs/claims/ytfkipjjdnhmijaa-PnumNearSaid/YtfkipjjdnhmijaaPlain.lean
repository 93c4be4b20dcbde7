/- The plain laws on packets' numbers (no program in sight), and the bit operations that the walks meet, as arithmetic. Conditions: the numbers fit their kinds. -/
import Derived.WalkKit
namespace Go.Proofs.Ytfkipjjdnhmijaa

def bytesN (n : Int) : Int := if n < 1 then 1 else if 4 < n then 4 else n
def winN (n : Int) : Int := if bytesN n = 1 then 256 else if bytesN n = 2 then 65536 else if bytesN n = 3 then 16777216 else 4294967296
def cutS (pn n : Int) : Int := pn % winN n
def wantS (largest : Int) : Int := if largest < 0 then 0 else if largest < 4611686018427387904 then largest + 1 else 4611686018427387904
def fullM (m c want : Int) : Int :=
  if want - want % m + c % m ≤ want - m / 2 ∧ want - want % m + c % m < 4611686018427387904 - m then want - want % m + c % m + m
  else if want + m / 2 < want - want % m + c % m ∧ m ≤ want - want % m + c % m then want - want % m + c % m - m
  else want - want % m + c % m
def fullS (c n largest : Int) : Int := fullM (winN n) c (wantS largest)
def lenD (d : Int) : Int := if d < 128 then 1 else if d < 32768 then 2 else if d < 8388608 then 3 else 4
def lenS (pn acked : Int) : Int := if acked < 0 then (if pn = 18446744073709551615 then 4 else lenD (pn + 1)) else if pn ≤ acked then 1 else lenD (pn - acked)

theorem bytesN_cases (n : Int) : bytesN n = 1 ∨ bytesN n = 2 ∨ bytesN n = 3 ∨ bytesN n = 4 := by unfold bytesN; split <;> (try split) <;> omega
theorem win1 {n : Int} (h : bytesN n = 1) : winN n = 256 := by unfold winN; rw [h]; rfl
theorem win2 {n : Int} (h : bytesN n = 2) : winN n = 65536 := by unfold winN; rw [h]; rfl
theorem win3 {n : Int} (h : bytesN n = 3) : winN n = 16777216 := by unfold winN; rw [h]; rfl
theorem win4 {n : Int} (h : bytesN n = 4) : winN n = 4294967296 := by unfold winN; rw [h]; rfl
theorem wantS_bd (l : Int) : 0 ≤ wantS l ∧ wantS l ≤ 4611686018427387904 := by unfold wantS; split <;> (try split) <;> omega

theorem u64_wraps (n : Int) (h0 : 0 ≤ n) (h1 : n < 2 ^ 64) : IntKind.u64.wrap n = n := by rw [IntKind.wrap_u64]; omega
theorem i64_wraps (n : Int) (h0 : 0 ≤ n) (h1 : n < 2 ^ 63) : IntKind.i64.wrap n = n := by rw [IntKind.wrap_i64]; omega
theorem u64_mask (i : Nat) (hi : i ≤ 64) (x : Int) (h0 : 0 ≤ x) (h1 : x ≤ 18446744073709551615) : bits .and .u64 x (2 ^ i - 1) = x % 2 ^ i :=
  bits_mask .u64 64 (by decide) u64_wraps i hi x h0 (by omega)

theorem and255 (x : Int) (h0 : 0 ≤ x) (h1 : x ≤ 18446744073709551615) : bits .and .u64 x 255 = x % 256 := u64_mask 8 (by decide) x h0 h1
theorem and65535 (x : Int) (h0 : 0 ≤ x) (h1 : x ≤ 18446744073709551615) : bits .and .u64 x 65535 = x % 65536 := u64_mask 16 (by decide) x h0 h1
theorem and24 (x : Int) (h0 : 0 ≤ x) (h1 : x ≤ 18446744073709551615) : bits .and .u64 x 16777215 = x % 16777216 := u64_mask 24 (by decide) x h0 h1
theorem and32 (x : Int) (h0 : 0 ≤ x) (h1 : x ≤ 18446744073709551615) : bits .and .u64 x 4294967295 = x % 4294967296 := u64_mask 32 (by decide) x h0 h1
theorem and61 (x : Int) (h0 : 0 ≤ x) (h1 : x ≤ 18446744073709551615) : bits .and .u64 x 2305843009213693951 = x % 2305843009213693952 := u64_mask 61 (by decide) x h0 h1

/-- 'x &^ (2^i - 1)' clears the lowest i bits. -/
theorem nat_andNot (w i a : Nat) (hi : i ≤ w) (ha : a < 2 ^ w) : (BitVec.ofNat w a &&& ~~~ (BitVec.ofNat w (2 ^ i - 1))).toNat = a - a % 2 ^ i := by
  have hp : 2 ^ i ≤ 2 ^ w := Nat.pow_le_pow_right (by decide) hi
  have hpos : 0 < 2 ^ i := Nat.two_pow_pos i
  have hq : (a / 2 ^ i) * 2 ^ i = a - a % 2 ^ i := by
    have := Nat.div_add_mod a (2 ^ i); rw [Nat.mul_comm]; omega
  rw [← hq]
  apply Nat.eq_of_testBit_eq
  intro j
  have e1 : (BitVec.ofNat w a &&& ~~~ (BitVec.ofNat w (2 ^ i - 1))).toNat.testBit j = (BitVec.ofNat w a &&& ~~~ (BitVec.ofNat w (2 ^ i - 1))).getLsbD j := rfl
  rw [e1, BitVec.getLsbD_and, BitVec.getLsbD_not, BitVec.getLsbD_ofNat, BitVec.getLsbD_ofNat, Nat.testBit_two_pow_sub_one, Nat.testBit_mul_two_pow, Nat.testBit_div_two_pow]
  by_cases hj : j < w
  · by_cases hji : i ≤ j
    · have h1 : ¬ j < i := by omega
      have h2 : j - i + i = j := by omega
      simp [hj, hji, h1, h2]
    · have h1 : j < i := by omega
      simp [hj, hji, h1]
  · have hb : a.testBit j = false := Nat.testBit_lt_two_pow (Nat.lt_of_lt_of_le ha (Nat.pow_le_pow_right (by decide) (by omega)))
    by_cases hji : i ≤ j
    · have h2 : j - i + i = j := by omega
      simp [hj, hji, h2, hb]
    · simp [hj, hji]

theorem andNot_gen (k : IntKind) (j : Nat) (hj : j ≤ k.bits) (hk : ∀ n : Int, 0 ≤ n → n < 2 ^ j → k.wrap n = n) (i : Nat) (hi : i ≤ j)
    (x : Int) (h0 : 0 ≤ x) (h1 : x < 2 ^ j) : bits .andNot k x (2 ^ i - 1) = x - x % 2 ^ i := by
  obtain ⟨a, rfl⟩ := Int.eq_ofNat_of_zero_le h0
  have ha : a < 2 ^ j := by exact_mod_cast h1
  have hpos : 0 < 2 ^ i := Nat.two_pow_pos i
  have hc : ((2 : Int) ^ i - 1) = ((2 ^ i - 1 : Nat) : Int) := by rw [Int.natCast_sub hpos]; simp
  rw [hc]
  simp only [bits, BitVec.ofInt_natCast]
  have hw : a < 2 ^ k.bits := Nat.lt_of_lt_of_le ha (Nat.pow_le_pow_right (by decide) hj)
  rw [nat_andNot k.bits i a (by omega) hw]
  have hle : a % 2 ^ i ≤ a := Nat.mod_le _ _
  rw [Int.natCast_sub hle]
  have hm : ((a % 2 ^ i : Nat) : Int) = (a : Int) % 2 ^ i := by simp
  have hcast : ((2 : Int) ^ i) = ((2 ^ i : Nat) : Int) := by simp
  rw [← hm]
  refine hk _ ?_ ?_
  · omega
  · have : ((a : Nat) : Int) < 2 ^ j := h1
    omega
theorem notU (i : Nat) (hi : i ≤ 63) (x : Int) (h0 : 0 ≤ x) (h1 : x ≤ 4611686018427387904) : bits .andNot .u64 x (2 ^ i - 1) = x - x % 2 ^ i :=
  andNot_gen .u64 64 (by decide) u64_wraps i (by omega) x h0 (by omega)
theorem notI (i : Nat) (hi : i ≤ 63) (x : Int) (h0 : 0 ≤ x) (h1 : x ≤ 4611686018427387904) : bits .andNot .i64 x (2 ^ i - 1) = x - x % 2 ^ i :=
  andNot_gen .i64 63 (by decide) i64_wraps i (by omega) x h0 (by omega)
theorem orU (i : Nat) (hi : i ≤ 32) (x c : Int) (h0 : 0 ≤ x) (h1 : x ≤ 4611686018427387904) : bits .or .u64 (x - x % 2 ^ i) (c % 2 ^ i) = x - x % 2 ^ i + c % 2 ^ i := by
  have hp : (0 : Int) < 2 ^ i := Int.pow_pos (by decide)
  have hle : (2 : Int) ^ i ≤ 2 ^ 32 := by exact_mod_cast Nat.pow_le_pow_right (by decide : 0 < 2) hi
  have a1 := Int.emod_nonneg c (Int.ne_of_gt hp)
  have a2 := Int.emod_lt_of_pos c hp
  have a3 := Int.emod_nonneg x (Int.ne_of_gt hp)
  have a4 := Int.emod_lt_of_pos x hp
  have a5 : x % 2 ^ i ≤ x := by
    have := Int.mul_ediv_add_emod x (2 ^ i)
    have := Int.mul_nonneg (Int.le_of_lt hp) (Int.ediv_nonneg h0 (Int.le_of_lt hp))
    omega
  exact bits_join .u64 64 (by decide) u64_wraps i _ _ (by omega) (by simp [Int.sub_emod]) (by omega) a1 a2 (by omega)
theorem orI (i : Nat) (hi : i ≤ 32) (x c : Int) (h0 : 0 ≤ x) (h1 : x ≤ 4611686018427387904) : bits .or .i64 (x - x % 2 ^ i) (c % 2 ^ i) = x - x % 2 ^ i + c % 2 ^ i := by
  have hp : (0 : Int) < 2 ^ i := Int.pow_pos (by decide)
  have hle : (2 : Int) ^ i ≤ 2 ^ 32 := by exact_mod_cast Nat.pow_le_pow_right (by decide : 0 < 2) hi
  have a1 := Int.emod_nonneg c (Int.ne_of_gt hp)
  have a2 := Int.emod_lt_of_pos c hp
  have a3 := Int.emod_nonneg x (Int.ne_of_gt hp)
  have a4 := Int.emod_lt_of_pos x hp
  have a5 : x % 2 ^ i ≤ x := by
    have := Int.mul_ediv_add_emod x (2 ^ i)
    have := Int.mul_nonneg (Int.le_of_lt hp) (Int.ediv_nonneg h0 (Int.le_of_lt hp))
    omega
  exact bits_join .i64 63 (by decide) i64_wraps i _ _ (by omega) (by simp [Int.sub_emod]) (by omega) a1 a2 (by omega)
def fullX (m X W : Int) : Int := if X ≤ W - m / 2 ∧ X < 4611686018427387904 - m then X + m else if W + m / 2 < X ∧ m ≤ X then X - m else X
theorem ret_of {k : IntKind} {a b : Int} (h : a = b) : Ending.returned (.int k a) = .returned (.int k b) := by rw [h]
end Go.Proofs.Ytfkipjjdnhmijaa
