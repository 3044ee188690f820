/-
  What the machine reckons with words of 64 bits, as natural numbers; the program's forms come to it. Plain.
-/
import Derived.Test.YtcpmjgjefhpgkaaWordP
namespace Go.Proofs.Ytcpmjgjefhpgkaa
open Go.RowKit

/-- a word as a number with a sign -/
def sg (a : Nat) : Int := if a < 9223372036854775808 then (a : Int) else (a : Int) - 18446744073709551616
/-- a number as a word -/
def un (x : Int) : Nat := (x % 18446744073709551616).toNat

theorem wrap64_sg (a : Nat) (h : a < 18446744073709551616) : wrap64 (a : Int) = sg a := by
  unfold wrap64 sg
  split <;> omega
theorem u64_un (x : Int) : IntKind.u64.wrap x = ((un x : Nat) : Int) := by
  rw [u64_wrap]; unfold un; omega
theorem un_lt (x : Int) : un x < 18446744073709551616 := by unfold un; omega
theorem un_nat (a : Nat) (h : a < 18446744073709551616) : un (a : Int) = a := by unfold un; omega
theorem sg_range (a : Nat) (h : a < 18446744073709551616) : -9223372036854775808 ≤ sg a ∧ sg a < 9223372036854775808 := by
  unfold sg; split <;> omega
theorem un_sg (a : Nat) (h : a < 18446744073709551616) : un (sg a) = a := by
  unfold un sg; split <;> omega

def wDiv (a b : Nat) : Int := if b = 0 then -1 else (sg a).tdiv (sg b)
def wRem (a b : Nat) : Int := if b = 0 then sg a else (sg a).tmod (sg b)

/-- with 64 bits -/
def wWide (op : Int) (a b : Nat) : Nat :=
  if op = 35 then un ((a : Int) + b) else if op = 36 then un ((a : Int) - b) else if op = 50 then un ((a : Int) * b)
  else if op = 40 then a ^^^ b else if op = 43 then a ||| b else if op = 44 then a &&& b
  else if op = 37 then un ((a : Int) * 2 ^ (b % 64)) else if op = 41 then a / 2 ^ (b % 64) else if op = 42 then un (sg a / 2 ^ (b % 64))
  else if op = 38 then (if sg a < sg b then 1 else 0) else if op = 39 then (if a < b then 1 else 0)
  else if op = 53 then a * b / 18446744073709551616
  else if op = 51 then un (((a * b / 18446744073709551616 : Nat) : Int) - (if sg a < 0 then (b : Int) else 0) - (if sg b < 0 then (a : Int) else 0))
  else if op = 52 then un (((a * b / 18446744073709551616 : Nat) : Int) - (if sg a < 0 then (b : Int) else 0))
  else if op = 54 then un (wDiv a b) else if op = 56 then un (wRem a b)
  else if op = 57 then (if b = 0 then a else a % b) else (if b = 0 then 18446744073709551615 else a / b)

theorem ite_lt {c : Prop} [Decidable c] {x y m : Nat} (h1 : x < m) (h2 : y < m) : (if c then x else y) < m := by
  split
  · exact h1
  · exact h2

theorem wWide_lt (op : Int) (a b : Nat) (ha : a < 18446744073709551616) (hb : b < 18446744073709551616) : wWide op a b < 18446744073709551616 := by
  have hx : a ^^^ b < 18446744073709551616 := @Nat.xor_lt_two_pow a b 64 ha hb
  have ho : a ||| b < 18446744073709551616 := @Nat.or_lt_two_pow a b 64 ha hb
  have hn : a &&& b < 18446744073709551616 := Nat.lt_of_le_of_lt Nat.and_le_left ha
  have hm : a * b / 18446744073709551616 < 18446744073709551616 := by
    apply Nat.div_lt_of_lt_mul
    exact Nat.mul_lt_mul'' ha hb
  have hd : a / b < 18446744073709551616 := Nat.lt_of_le_of_lt (Nat.div_le_self a b) ha
  have hd2 : a / 2 ^ (b % 64) < 18446744073709551616 := Nat.lt_of_le_of_lt (Nat.div_le_self a _) ha
  have hr : a % b < 18446744073709551616 := Nat.lt_of_le_of_lt (Nat.mod_le a b) ha
  unfold wWide
  repeat (first | exact un_lt _ | exact hx | exact ho | exact hn | exact hm | exact hd | exact hd2 | exact hr | exact ha | exact (by omega : (1 : Nat) < 18446744073709551616) | exact (by omega : (0 : Nat) < 18446744073709551616) | exact (by omega : (18446744073709551615 : Nat) < 18446744073709551616) | refine ite_lt ?_ ?_)

theorem mask63 (b : Nat) (hb : b < 18446744073709551616) : bits BinOp.and IntKind.u64 (b : Int) 63 = ((b % 64 : Nat) : Int) := by
  have := u64_and_nat b 63 hb (by omega)
  rw [show ((63 : Nat) : Int) = 63 from rfl] at this
  rw [this, nat_mask6]

theorem tdiv_range (x y : Int) (hx : -9223372036854775808 ≤ x) (hx2 : x < 9223372036854775808) (hy : y ≠ -1) : -9223372036854775808 ≤ x.tdiv y ∧ x.tdiv y < 9223372036854775808 := by
  by_cases hxm : x = -9223372036854775808
  · subst hxm
    rcases Int.lt_or_le y 0 with h | h
    · have h2 : y ≤ -2 := by omega
      obtain ⟨n, rfl⟩ : ∃ n : Nat, y = -(n : Int) := ⟨y.natAbs, by omega⟩
      have e : (-9223372036854775808 : Int).tdiv (-(n : Int)) = ((9223372036854775808 / n : Nat) : Int) := by
        rw [Int.tdiv_neg, show (-9223372036854775808 : Int) = -((9223372036854775808 : Nat) : Int) from rfl, Int.neg_tdiv, Int.neg_neg]
        rfl
      rw [e]
      have h3 : 9223372036854775808 / n ≤ 4611686018427387904 := Nat.div_le_div_left (a := 9223372036854775808) (c := 2) (b := n) (by omega) (by omega)
      generalize 9223372036854775808 / n = k at *
      omega
    · obtain ⟨n, rfl⟩ := Int.eq_ofNat_of_zero_le h
      have e : (-9223372036854775808 : Int).tdiv (n : Int) = -((9223372036854775808 / n : Nat) : Int) := by
        rw [show (-9223372036854775808 : Int) = -((9223372036854775808 : Nat) : Int) from rfl, Int.neg_tdiv]
        rfl
      rw [e]
      have := Nat.div_le_self 9223372036854775808 n
      generalize 9223372036854775808 / n = k at *
      omega
  · have h1 : (x.tdiv y).natAbs ≤ x.natAbs := by rw [Int.natAbs_tdiv]; exact Nat.div_le_self _ _
    omega
theorem tmod_nonpos' (x y : Int) (h : x ≤ 0) : x.tmod y ≤ 0 := by
  have h1 := Int.tmod_nonneg y (show 0 ≤ -x by omega)
  rw [Int.neg_tmod] at h1
  omega
theorem tmod_range (x y : Int) (hx : -9223372036854775808 ≤ x) (hx2 : x < 9223372036854775808) : -9223372036854775808 ≤ x.tmod y ∧ x.tmod y < 9223372036854775808 := by
  have h1 : (x.tmod y).natAbs ≤ x.natAbs := by rw [Int.natAbs_tmod]; exact Nat.mod_le _ _
  rcases Int.lt_or_le x 0 with h | h
  · have := tmod_nonpos' x y (by omega)
    omega
  · have := Int.tmod_nonneg y h
    omega
end Go.Proofs.Ytcpmjgjefhpgkaa
