/- The plain table: which place is the newest of a kind, how many must go for room, what an entry more makes of it. Conditions: none. -/
import Derived.Test.YtfkmcbkhodppmaaM
namespace Go.Proofs.Ytfkmcbkhodppmaa
open Go.RowKit

/-- The newest number of a kind, where the first entry bears the number b. -/
def lastOf (p : Fld → Bool) : List Fld → Nat → Option Int
  | [], _ => none
  | y :: L, b => (lastOf p L (b + 1)).or (if p y then some (b : Int) else none)
theorem lastOf_append (p : Fld → Bool) (M : List Fld) : ∀ (L : List Fld) (b : Nat), lastOf p (L ++ M) b = (lastOf p M (b + L.length)).or (lastOf p L b)
  | [], b => by simp [lastOf]
  | y :: L, b => by
    have h := lastOf_append p M L (b + 1)
    rw [show b + 1 + L.length = b + (y :: L).length from by simp; omega] at h
    rw [List.cons_append, lastOf, h, lastOf, Option.or_assoc]
theorem lastOf_ge (p : Fld → Bool) : ∀ (L : List Fld) (b : Nat) (i : Int), lastOf p L b = some i → (b : Int) ≤ i ∧ i < b + L.length
  | [], b, i, h => by simp [lastOf] at h
  | y :: L, b, i, h => by
    rw [lastOf] at h
    cases hl : lastOf p L (b + 1) with
    | some j =>
      rw [hl] at h
      simp at h
      subst h
      have := lastOf_ge p L (b + 1) j hl
      simp
      omega
    | none =>
      rw [hl] at h
      by_cases hp : p y = true
      · simp [hp] at h
        subst h
        simp
        omega
      · simp [hp] at h
def whole (L : List Fld) (b : Nat) : Fld → Option Int := fun z => lastOf (fun y => decide (y = z)) L b
def names (L : List Fld) (b : Nat) : ByteArray → Option Int := fun z => lastOf (fun y => decide (y.1 = z)) L b
theorem whole_nil (b : Nat) : whole [] b = fun _ => none := rfl
theorem names_nil (b : Nat) : names [] b = fun _ => none := rfl
theorem whole_snoc (L : List Fld) (b : Nat) (x : Fld) : whole (L ++ [x]) b = updW (whole L b) x (some ((b + L.length : Nat) : Int)) := by
  funext z
  unfold whole updW
  rw [lastOf_append]
  by_cases h : z = x
  · subst h
    simp [lastOf]
  · have : x ≠ z := fun e => h e.symm
    simp [lastOf, h, this]
theorem names_snoc (L : List Fld) (b : Nat) (x : Fld) : names (L ++ [x]) b = updN (names L b) x.1 (some ((b + L.length : Nat) : Int)) := by
  funext z
  unfold names updN
  rw [lastOf_append]
  by_cases h : z = x.1
  · subst h
    simp [lastOf]
  · have : x.1 ≠ z := fun e => h e.symm
    simp [lastOf, h, this]
theorem last_drop_yes (p : Fld → Bool) (y : Fld) (L : List Fld) (b : Nat) (h : lastOf p (y :: L) b = some (b : Int)) : lastOf p L (b + 1) = none := by
  cases hl : lastOf p L (b + 1) with
  | none => rfl
  | some j =>
    rw [lastOf, hl] at h
    simp at h
    have := lastOf_ge p L (b + 1) j hl
    omega
theorem last_drop_no (p : Fld → Bool) (y : Fld) (L : List Fld) (b : Nat) (hp : p y = true) (h : lastOf p (y :: L) b ≠ some (b : Int)) : lastOf p L (b + 1) = lastOf p (y :: L) b := by
  cases hl : lastOf p L (b + 1) with
  | none =>
    rw [lastOf, hl] at h
    simp [hp] at h
  | some j =>
    rw [lastOf, hl]
    simp
theorem last_here (p : Fld → Bool) (y : Fld) (L : List Fld) (b : Nat) (hp : p y = true) : ∃ i, lastOf p (y :: L) b = some i ∧ (b : Int) ≤ i ∧ i < b + (L.length + 1) := by
  cases hl : lastOf p L (b + 1) with
  | none => exact ⟨b, by rw [lastOf, hl]; simp [hp], by omega, by omega⟩
  | some j =>
    have := lastOf_ge p L (b + 1) j hl
    exact ⟨j, by rw [lastOf, hl]; simp, by omega, by omega⟩
theorem whole_drop_yes (y : Fld) (L : List Fld) (b : Nat) (h : whole (y :: L) b y = some (b : Int)) : whole L (b + 1) = updW (whole (y :: L) b) y none := by
  funext z
  unfold updW
  by_cases e : z = y
  · subst e
    rw [if_pos rfl]
    exact last_drop_yes _ _ _ _ h
  · have : y ≠ z := fun e' => e e'.symm
    rw [if_neg e]
    simp [whole, lastOf, this]
theorem whole_drop_no (y : Fld) (L : List Fld) (b : Nat) (h : whole (y :: L) b y ≠ some (b : Int)) : whole L (b + 1) = whole (y :: L) b := by
  funext z
  by_cases e : z = y
  · subst e
    exact last_drop_no _ _ _ _ (by simp) h
  · have : y ≠ z := fun e' => e e'.symm
    simp [whole, lastOf, this]
theorem names_drop_yes (y : Fld) (L : List Fld) (b : Nat) (h : names (y :: L) b y.1 = some (b : Int)) : names L (b + 1) = updN (names (y :: L) b) y.1 none := by
  funext z
  unfold updN
  by_cases e : z = y.1
  · subst e
    rw [if_pos rfl]
    exact last_drop_yes _ _ _ _ h
  · have : y.1 ≠ z := fun e' => e e'.symm
    rw [if_neg e]
    simp [names, lastOf, this]
theorem names_drop_no (y : Fld) (L : List Fld) (b : Nat) (h : names (y :: L) b y.1 ≠ some (b : Int)) : names L (b + 1) = names (y :: L) b := by
  funext z
  by_cases e : z = y.1
  · subst e
    exact last_drop_no _ _ _ _ (by simp) h
  · have : y.1 ≠ z := fun e' => e e'.symm
    simp [names, lastOf, this]

/-- How many of the oldest ones must go till the others' sizes are at most m. -/
def fitN : List Fld → Int → Nat
  | [], _ => 0
  | y :: L, m => if m < (szL (y :: L) : Int) then fitN L m + 1 else 0
def fitL (L : List Fld) (m : Int) : List Fld := L.drop (fitN L m)
theorem fitN_le : ∀ (L : List Fld) (m : Int), fitN L m ≤ L.length
  | [], _ => Nat.le_refl _
  | y :: L, m => by
    rw [fitN]
    split
    · have := fitN_le L m
      simp; omega
    · exact Nat.zero_le _
theorem fitL_len (L : List Fld) (m : Int) : (fitL L m).length = L.length - fitN L m := by simp [fitL]
theorem fitN_go (L : List Fld) (m : Int) (y : Fld) (M : List Fld) (hL : L = y :: M) (h : m < (szL L : Int)) : fitN L m = fitN M m + 1 := by
  subst hL
  rw [fitN, if_pos h]
theorem fitN_stop (L : List Fld) (m : Int) (h : ¬ m < (szL L : Int)) : fitN L m = 0 := by
  cases L with
  | nil => rfl
  | cons y M => rw [fitN, if_neg h]
theorem fitL_sz : ∀ (L : List Fld) (m : Int), 0 ≤ m → (szL (fitL L m) : Int) ≤ m
  | [], m, h => by simpa [fitL, fitN, szL] using h
  | y :: L, m, h => by
    unfold fitL
    rw [fitN]
    split
    · have := fitL_sz L m h
      simpa [fitL] using this
    · rename_i hn
      simpa using hn
theorem fitL_neg : ∀ (L : List Fld) (m : Int), m < 0 → fitN L m = L.length
  | [], m, _ => rfl
  | y :: L, m, h => by
    rw [fitN, if_pos (by omega), fitL_neg L m h]
    rfl
theorem szL_drop_le (L : List Fld) (k : Nat) : szL (L.drop k) ≤ szL L := by
  conv => rhs; rw [← List.take_append_drop k L, szL_append]
  omega
theorem szL_fitL_le (L : List Fld) (m : Int) : szL (fitL L m) ≤ szL L := szL_drop_le _ _
theorem szL_pos (y : Fld) (L : List Fld) : szL (y :: L) = sz y + szL L := szL_cons y L
theorem sz_ge (x : Fld) : 32 ≤ sz x := by unfold sz; omega
theorem szL_len (L : List Fld) : L.length * 32 ≤ szL L := by
  induction L with
  | nil => simp
  | cons y L ih => rw [szL_cons, List.length_cons]; have := sz_ge y; omega

/-- A table's entries, and how many ever stood. -/
structure TS where
  L : List Fld
  cnt : Nat
def TS.first (s : TS) : Nat := s.cnt - s.L.length
def TS.ok (s : TS) (cap : Nat) : Prop := s.L.length ≤ s.cnt ∧ szL s.L ≤ cap
def add1 (cap : Nat) (s : TS) (x : Fld) : TS :=
  if sz x ≤ cap then ⟨fitL s.L ((cap : Int) - (sz x : Int)) ++ [x], s.cnt + 1⟩ else ⟨fitL s.L ((cap : Int) - (sz x : Int)), s.cnt⟩
def gone1 (cap : Nat) (s : TS) (x : Fld) : Nat := fitN s.L ((cap : Int) - (sz x : Int))
def addA (cap : Nat) (s : TS) (l : List Fld) : TS := l.foldl (add1 cap) s
def goneA (cap : Nat) : TS → List Fld → Nat
  | _, [] => 0
  | s, x :: l => gone1 cap s x + goneA cap (add1 cap s x) l
def setC (s : TS) (cap : Nat) : TS := ⟨fitL s.L (cap : Int), s.cnt⟩
theorem add1_yes (cap : Nat) (s : TS) (x : Fld) (h : sz x ≤ cap) : add1 cap s x = ⟨fitL s.L ((cap : Int) - (sz x : Int)) ++ [x], s.cnt + 1⟩ := by simp [add1, h]
theorem add1_no (cap : Nat) (s : TS) (x : Fld) (h : ¬ sz x ≤ cap) : add1 cap s x = ⟨[], s.cnt⟩ := by
  simp [add1, h, fitL, fitL_neg s.L ((cap : Int) - (sz x : Int)) (by omega)]
theorem ok_fit {s : TS} {cap : Nat} (h : s.ok cap) (m : Int) : (TS.mk (fitL s.L m) s.cnt).ok cap := by
  have h1 := fitL_len s.L m
  have h2 := szL_fitL_le s.L m
  have h3 := h.1
  have h4 := h.2
  refine ⟨?_, ?_⟩
  · show (fitL s.L m).length ≤ s.cnt
    omega
  · show szL (fitL s.L m) ≤ cap
    omega
theorem ok_add1 {s : TS} {cap : Nat} (h : s.ok cap) (x : Fld) : (add1 cap s x).ok cap := by
  by_cases hx : sz x ≤ cap
  · rw [add1_yes _ _ _ hx]
    have h1 := fitL_len s.L ((cap : Int) - (sz x : Int))
    have h2 := fitL_sz s.L ((cap : Int) - (sz x : Int)) (by omega)
    have h3 := h.1
    refine ⟨?_, ?_⟩
    · simp
      omega
    · rw [szL_append]
      have : szL [x] = sz x := by simp [szL]
      omega
  · rw [add1_no _ _ _ hx]
    refine ⟨by simp, ?_⟩
    simp [szL]
theorem cnt_add1 (cap : Nat) (s : TS) (x : Fld) : (add1 cap s x).cnt ≤ s.cnt + 1 := by
  by_cases hx : sz x ≤ cap
  · rw [add1_yes _ _ _ hx]
    exact Nat.le_refl _
  · rw [add1_no _ _ _ hx]
    exact Nat.le_succ _
theorem ok_addA {cap : Nat} : ∀ (l : List Fld) {s : TS}, s.ok cap → (addA cap s l).ok cap ∧ (addA cap s l).cnt ≤ s.cnt + l.length
  | [], s, h => ⟨h, Nat.le_refl _⟩
  | x :: l, s, h => by
    have h1 := ok_addA l (ok_add1 h x)
    have h2 := cnt_add1 cap s x
    refine ⟨h1.1, ?_⟩
    have : addA cap s (x :: l) = addA cap (add1 cap s x) l := rfl
    rw [this]
    have := h1.2
    simp; omega
theorem addA_take (cap : Nat) (s : TS) (l : List Fld) (k : Nat) (x : Fld) (hx : l[k]? = some x) : addA cap s (l.take (k + 1)) = add1 cap (addA cap s (l.take k)) x := by
  rw [List.take_add_one, hx]
  simp [addA]
theorem goneA_append (cap : Nat) : ∀ (l m : List Fld) (s : TS), goneA cap s (l ++ m) = goneA cap s l + goneA cap (addA cap s l) m
  | [], m, s => by simp [goneA, addA]
  | x :: l, m, s => by
    rw [List.cons_append, goneA, goneA_append cap l m, goneA]
    have : addA cap s (x :: l) = addA cap (add1 cap s x) l := rfl
    rw [this]; omega
theorem goneA_take (cap : Nat) (s : TS) (l : List Fld) (k : Nat) (x : Fld) (hx : l[k]? = some x) : goneA cap s (l.take (k + 1)) = goneA cap s (l.take k) + gone1 cap (addA cap s (l.take k)) x := by
  rw [List.take_add_one, hx, goneA_append]
  simp [goneA]
theorem gone1_le (cap : Nat) (s : TS) (x : Fld) : gone1 cap s x ≤ s.L.length := fitN_le _ _

/-- What stands at an absolute number, and what among the newest. -/
def TS.at_ (s : TS) (a : Nat) : Option Fld := if a < s.first ∨ s.cnt ≤ a then none else s.L[a - s.first]?
def TS.new_ (s : TS) (i : Nat) : Option Fld := if s.L.length ≤ i then none else s.L[s.L.length - 1 - i]?
def TS.find_ (s : TS) (f : Fld) : Int × Bool × Bool :=
  match whole s.L s.first f with
  | some i => (i, true, true)
  | none => match names s.L s.first f.1 with
    | some i => (i, true, false)
    | none => (0, false, false)
end Go.Proofs.Ytfkmcbkhodppmaa
