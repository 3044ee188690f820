/-
  Words of 64 bits as natural numbers: what the program's forms come to. Plain lemmas.
-/
import Derived.WalkKit
namespace Go.Proofs.Ytodjmfmenfncdaa
open Go.RowKit

theorem u64_wrap (x : Int) : IntKind.u64.wrap x = x % 18446744073709551616 := by simp [IntKind.wrap, IntKind.bits, IntKind.signed]
theorem u64_wrap_nat (x : Nat) : IntKind.u64.wrap (x : Int) = ((x % 18446744073709551616 : Nat) : Int) := by rw [u64_wrap]; omega
theorem u64_wrap_lt (x : Nat) (h : x < 18446744073709551616) : IntKind.u64.wrap (x : Int) = (x : Int) := by rw [u64_wrap]; omega

/-- the low bits -/
def wLow (v : Nat) (n : Int) : Nat := if n ≤ 0 then 0 else if 64 ≤ n then v else v % 2 ^ n.toNat
/-- the low bits as a number with a sign -/
def wSign (v : Nat) (n : Int) : Nat :=
  if n ≤ 0 then 0 else if 64 ≤ n then v else if 2 ^ (n.toNat - 1) ≤ v % 2 ^ n.toNat then v % 2 ^ n.toNat + (18446744073709551616 - 2 ^ n.toNat) else v % 2 ^ n.toNat

theorem pow_split (n : Nat) (h : n ≤ 64) : 2 ^ (64 - n) * 2 ^ n = 18446744073709551616 := by
  rw [← Nat.pow_add, show 64 - n + n = 64 from by omega]
theorem pow_lt_64 (n : Nat) (h : n < 64) : 2 ^ n ≤ 9223372036854775808 := by
  have : 2 ^ n ≤ 2 ^ 63 := Nat.pow_le_pow_right (by omega) (by omega)
  omega
theorem pow_half (n : Nat) (h : 0 < n) : 2 ^ n = 2 * 2 ^ (n - 1) := by
  obtain ⟨m, rfl⟩ : ∃ m, n = m + 1 := ⟨n - 1, by omega⟩
  rw [Nat.pow_succ, Nat.mul_comm]; rfl

theorem wLow_lt (v : Nat) (n : Int) (h : v < 18446744073709551616) : wLow v n < 18446744073709551616 := by
  unfold wLow
  split
  · omega
  · split
    · exact h
    · exact Nat.lt_of_le_of_lt (Nat.mod_le _ _) h
theorem wSign_lt (v : Nat) (n : Int) (h : v < 18446744073709551616) : wSign v n < 18446744073709551616 := by
  unfold wSign
  split
  · omega
  · split
    · exact h
    · have h1 : v % 2 ^ n.toNat < 2 ^ n.toNat := Nat.mod_lt _ (Nat.two_pow_pos _)
      have h2 := pow_lt_64 n.toNat (by omega)
      split <;> omega

theorem low_form (v n : Nat) (hv : v < 18446744073709551616) (h0 : 0 < n) (h1 : n < 64) :
    bits BinOp.and IntKind.u64 (v : Int) (IntKind.u64.wrap (IntKind.u64.wrap (2 ^ n) - 1)) = ((wLow v n : Nat) : Int) := by
  have hp := pow_lt_64 n h1
  have hpos := Nat.two_pow_pos n
  have e1 : ((2 : Int) ^ n) = ((2 ^ n : Nat) : Int) := by simp
  have e2 : IntKind.u64.wrap (((2 ^ n : Nat) : Int)) = ((2 ^ n : Nat) : Int) := u64_wrap_lt _ (by omega)
  rw [e1, e2, show ((2 ^ n : Nat) : Int) - 1 = ((2 ^ n - 1 : Nat) : Int) from by omega, u64_wrap_lt _ (by omega), u64_and_nat _ _ hv (by omega), Nat.and_two_pow_sub_one_eq_mod]
  simp [wLow, show ¬ n = 0 from by omega, show ¬ (64 : Int) ≤ (n : Int) from by omega]

theorem sign_core (l P Q H : Nat) (hP : 0 < P) (hPQ : P * Q = 18446744073709551616) (hQ : Q = 2 * H) (hl : l < Q) :
    IntKind.u64.wrap (wrap64 (((l * P : Nat) : Int)) / (P : Int)) = (((if H ≤ l then l + (18446744073709551616 - Q) else l) : Nat) : Int) := by
  have hH : P * H = 9223372036854775808 := by
    have : 2 * (P * H) = 18446744073709551616 := by rw [← hPQ, hQ, Nat.mul_left_comm]
    omega
  have hlt : l * P < 18446744073709551616 := by
    rw [← hPQ, Nat.mul_comm P Q]
    exact Nat.mul_lt_mul_of_pos_right hl hP
  have hQle : Q ≤ 18446744073709551616 := by rw [← hPQ]; exact Nat.le_mul_of_pos_left _ hP
  by_cases h : H ≤ l
  · have h2 : 9223372036854775808 ≤ l * P := by
      rw [← hH, Nat.mul_comm P H]
      exact Nat.mul_le_mul_right _ h
    have e1 : wrap64 (((l * P : Nat) : Int)) = ((l : Int) - (Q : Int)) * (P : Int) := by
      have e : ((Q : Int)) * (P : Int) = 18446744073709551616 := by
        have : ((P * Q : Nat) : Int) = 18446744073709551616 := by rw [hPQ]; rfl
        rw [Int.natCast_mul, Int.mul_comm] at this
        exact this
      rw [Int.sub_mul, e, ← Int.natCast_mul]
      unfold wrap64
      omega
    rw [e1, Int.mul_ediv_cancel _ (by omega), if_pos h, u64_wrap]
    omega
  · have h2 : l * P < 9223372036854775808 := by
      rw [← hH, Nat.mul_comm P H]
      exact Nat.mul_lt_mul_of_pos_right (by omega) hP
    have e1 : wrap64 (((l * P : Nat) : Int)) = (l : Int) * (P : Int) := by
      rw [← Int.natCast_mul]
      unfold wrap64
      omega
    rw [e1, Int.mul_ediv_cancel _ (by omega), if_neg h, u64_wrap]
    omega

theorem sign_form (v n : Nat) (h0 : 0 < n) (h1 : n < 64) :
    IntKind.u64.wrap (wrap64 (IntKind.u64.wrap ((v : Int) * 2 ^ (64 - n))) / 2 ^ (64 - n)) = ((wSign v n : Nat) : Int) := by
  have hs := pow_split n (by omega)
  have e1 : ((2 : Int) ^ (64 - n)) = ((2 ^ (64 - n) : Nat) : Int) := by simp
  have e2 : IntKind.u64.wrap (((v * 2 ^ (64 - n) : Nat) : Int)) = (((v % 2 ^ n) * 2 ^ (64 - n) : Nat) : Int) := by
    rw [u64_wrap_nat, ← hs, Nat.mul_comm (2 ^ (64 - n)) (2 ^ n), Nat.mul_mod_mul_right]
  rw [e1, ← Int.natCast_mul, e2, sign_core (v % 2 ^ n) (2 ^ (64 - n)) (2 ^ n) (2 ^ (n - 1)) (Nat.two_pow_pos _) hs (pow_half n h0) (Nat.mod_lt _ (Nat.two_pow_pos _))]
  simp [wSign, show ¬ n = 0 from by omega, show ¬ (64 : Int) ≤ (n : Int) from by omega]
end Go.Proofs.Ytodjmfmenfncdaa
