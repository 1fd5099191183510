/- Sets of bits as whole numbers below 4096. Plain lemmas. -/
import Derived.Test.YtkkcglncjdoacaaDoorMat
namespace Go.Proofs.YtkkcglncjdoacaaDoor
open Go.ChangeShapes Go.WideShapes Go.ChangeAt Go.RowKit Go.Joins
set_option maxRecDepth 20000
set_option linter.unusedSimpArgs false
set_option linter.unusedVariables false

theorem bits_toNat {m : Nat} (h : m < 18446744073709551616) : (BitVec.ofInt 64 (m : Int)).toNat = m := by rw [BitVec.ofInt_natCast, BitVec.toNat_ofNat]; exact Nat.mod_eq_of_lt (by omega)
theorem bits_or {x y : Nat} (hx : x < 4096) (hy : y < 4096) : bits .or .i64 (x : Int) (y : Int) = ((x ||| y : Nat) : Int) := by
  have h : bits .or .i64 (x : Int) (y : Int) = IntKind.i64.wrap ((BitVec.ofInt 64 (x : Int) ||| BitVec.ofInt 64 (y : Int)).toNat : Int) := rfl
  have hlt : x ||| y < 2 ^ 12 := Nat.or_lt_two_pow hx hy
  rw [h, BitVec.toNat_or, bits_toNat (by omega), bits_toNat (by omega), IntWalk.i64_in _ (by omega)]
theorem bits_and1 {x : Nat} (hx : x < 4096) : bits .and .i64 (x : Int) 1 = ((x % 2 : Nat) : Int) := by
  have h : bits .and .i64 (x : Int) 1 = IntKind.i64.wrap ((BitVec.ofInt 64 (x : Int) &&& BitVec.ofInt 64 ((1 : Nat) : Int)).toNat : Int) := rfl
  rw [h, BitVec.toNat_and, bits_toNat (by omega), bits_toNat (by omega), Nat.and_one_is_mod, IntWalk.i64_in _ (by omega)]
theorem bit_test {x m : Nat} (hx : x < 4096) : bits .and .i64 ((x : Int) / 2 ^ m) 1 = if x.testBit m = true then 1 else 0 := by
  have hp : ((x : Int) / 2 ^ m) = ((x / 2 ^ m : Nat) : Int) := by rw [Int.natCast_ediv]; simp
  have hle : x / 2 ^ m ≤ x := Nat.div_le_self _ _
  rw [hp, bits_and1 (by omega), Nat.testBit_eq_decide_div_mod_eq]
  by_cases h : x / 2 ^ m % 2 = 1
  · simp [h]
  · have h0 : x / 2 ^ m % 2 = 0 := by omega
    simp [h0]
theorem pow_lt {r : Nat} (h : r < 12) : 2 ^ r < 4096 := by
  have : 2 ^ r ≤ 2 ^ 11 := Nat.pow_le_pow_right (by omega) (by omega)
  omega
theorem pow_wrap {r : Nat} (h : r < 12) : IntKind.i64.wrap ((2 : Int) ^ r) = ((2 ^ r : Nat) : Int) := by
  have h1 := pow_lt h
  have h2 : ((2 : Int) ^ r) = ((2 ^ r : Nat) : Int) := by simp
  obtain ⟨q, hq⟩ : ∃ q : Nat, 2 ^ r = q := ⟨_, rfl⟩
  rw [hq] at h1 h2
  rw [h2, hq, IntWalk.i64_in _ (by omega)]
/-- Row i of the table R as bits X i. -/
def RowsB (n : Nat) (X : Nat → Nat) (R : Mx) : Prop := ∀ i, i < n → X i < 4096 ∧ ∀ k, (X i).testBit k = (decide (k < n) && R i k)
theorem RowsB.congr {n : Nat} {X : Nat → Nat} {R R' : Mx} (h : RowsB n X R) (hr : ∀ a b, a < n → b < n → R a b = R' a b) : RowsB n X R' := by
  intro i hi
  refine ⟨(h i hi).1, fun k => ?_⟩
  rw [(h i hi).2 k]
  by_cases hk : k < n
  · rw [hr i k hi hk]
  · simp [hk]
theorem RowsB.orBit {n : Nat} {X : Nat → Nat} {R : Mx} (h : RowsB n X R) (hn : n ≤ 12) {q r : Nat} (hq : q < n) (hr : r < n) :
    RowsB n (fun i => if i = q then X q ||| 2 ^ r else X i) (fun a b => if a = q ∧ b = r then true else R a b) := by
  intro i hi
  dsimp only
  by_cases hiq : i = q
  · subst hiq
    rw [if_pos rfl]
    refine ⟨Nat.or_lt_two_pow (n := 12) (h i hi).1 (pow_lt (by omega)), fun k => ?_⟩
    rw [Nat.testBit_or, (h i hi).2 k, Nat.testBit_two_pow]
    by_cases hk : r = k
    · subst hk; simp [hr]
    · simp [hk, show ¬ k = r from fun e => hk e.symm]
  · rw [if_neg hiq]
    refine ⟨(h i hi).1, fun k => ?_⟩
    rw [(h i hi).2 k]
    simp [hiq]
theorem RowsB.orRow {n : Nat} {X : Nat → Nat} {R : Mx} (h : RowsB n X R) {m i : Nat} (hm : m < n) (hi : i < n) (ht : R i m = true) : RowsB n (fun a => if a = i then X i ||| X m else X a) (rowStep m i R) := by
  intro a ha
  dsimp only
  by_cases hai : a = i
  · subst hai
    rw [if_pos rfl]
    refine ⟨Nat.or_lt_two_pow (n := 12) (h a ha).1 (h m hm).1, fun k => ?_⟩
    rw [Nat.testBit_or, (h a ha).2 k, (h m hm).2 k]
    simp only [rowStep, if_true, ht, Bool.true_and]
    cases decide (k < n) <;> simp
  · rw [if_neg hai]
    refine ⟨(h a ha).1, fun k => ?_⟩
    rw [(h a ha).2 k]
    simp [rowStep, hai]
theorem rowStep_no {m i : Nat} {R : Mx} (ht : R i m = false) : rowStep m i R = R := by
  funext a b
  simp only [rowStep]
  split
  · rename_i h
    subst h
    simp [ht]
  · rfl
end Go.Proofs.YtkkcglncjdoacaaDoor
