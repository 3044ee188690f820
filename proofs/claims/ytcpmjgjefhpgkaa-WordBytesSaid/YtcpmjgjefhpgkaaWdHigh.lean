/-
  word.truth, high, divides, plainly by their contracts.
-/
import Derived.Test.YtcpmjgjefhpgkaaWdSign
namespace Go.Proofs.Ytcpmjgjefhpgkaa
open Go.RowKit

theorem word_truth (w : World) (b : Bool) :
    Calls Try.prog 31 #[.bool b] w fun e w' => e = .returned (.int .u64 (if b then 1 else 0 : Nat)) ∧ w = w' := by
  cases b with
  | true =>
    go_enter Try.func31, Try.ntmps31
    go_wp2_with fail
    go_ret
    exact ⟨rfl, rfl⟩
  | false =>
    go_enter Try.func31, Try.ntmps31
    go_wp2_with fail
    go_ret
    exact ⟨rfl, rfl⟩

theorem mask32 (x : Nat) (hx : x < 18446744073709551616) : bits BinOp.and IntKind.u64 (x : Int) 4294967295 = ((x % 4294967296 : Nat) : Int) := by
  have := u64_and_nat x 4294967295 hx (by omega)
  rw [show ((4294967295 : Nat) : Int) = 4294967295 from rfl] at this
  rw [this]
  have h := Nat.and_two_pow_sub_one_eq_mod x 32
  rw [show 2 ^ 32 - 1 = 4294967295 from rfl, show 2 ^ 32 = 4294967296 from rfl] at h
  rw [h]

/-- a product of two halves -/
theorem part_le (x y : Int) (hx : 0 ≤ x) (hy : 0 ≤ y) : 0 ≤ x % 4294967296 * (y % 4294967296) ∧ x % 4294967296 * (y % 4294967296) ≤ 18446744065119617025 := by
  obtain ⟨m, rfl⟩ := Int.eq_ofNat_of_zero_le hx
  obtain ⟨n, rfl⟩ := Int.eq_ofNat_of_zero_le hy
  have h1 : m % 4294967296 ≤ 4294967295 := by omega
  have h2 : n % 4294967296 ≤ 4294967295 := by omega
  have h := Nat.mul_le_mul h1 h2
  have e : ((m : Int) % 4294967296 * ((n : Int) % 4294967296)) = ((m % 4294967296 * (n % 4294967296) : Nat) : Int) := by simp
  rw [e]
  omega

theorem mask32i (x : Int) (hx : 0 ≤ x) (hx2 : x < 18446744073709551616) : bits BinOp.and IntKind.u64 x 4294967295 = x % 4294967296 := by
  obtain ⟨n, rfl⟩ := Int.eq_ofNat_of_zero_le hx
  rw [mask32 n (by omega)]
  simp

/-- what a part tells -/
def PartPost (w : World) (x y : Int) (e : Ending) (w' : World) : Prop := ∃ r : Int, e = .returned (.int .u64 r) ∧ r = x % 4294967296 * (y % 4294967296) ∧ 0 ≤ r ∧ r ≤ 18446744065119617025 ∧ w = w'

theorem word_part (w : World) (x y : Int) (hx0 : 0 ≤ x) (hx : x < 18446744073709551616) (hy0 : 0 ≤ y) (hy : y < 18446744073709551616) :
    Calls Try.prog 40 #[.int .u64 x, .int .u64 y] w (PartPost w x y) := by
  have h1 := mask32i x hx0 hx
  have h2 := mask32i y hy0 hy
  have hp := part_le x y hx0 hy0
  have h3 : IntKind.u64.wrap (x % 4294967296 * (y % 4294967296)) = x % 4294967296 * (y % 4294967296) := by
    rw [u64_wrap]
    omega
  have HP := Lib.hid hp
  clear hx0 hx hy0 hy hp
  go_enter Try.func40, Try.ntmps40
  go_wp2_with fail
  go_ret
  exact ⟨_, rfl, rfl, HP.out.1, HP.out.2, rfl⟩

theorem high_plain (a b r1 r2 r3 r4 : Int) (ha0 : 0 ≤ a) (ha : a < 18446744073709551616) (hb0 : 0 ≤ b) (hb : b < 18446744073709551616)
    (h1 : r1 = a % 4294967296 * (b % 4294967296)) (h2 : r2 = a / 4294967296 % 4294967296 * (b % 4294967296))
    (h3 : r3 = a % 4294967296 * (b / 4294967296 % 4294967296)) (h4 : r4 = a / 4294967296 % 4294967296 * (b / 4294967296 % 4294967296)) :
    r4 + (r2 + r1 / 4294967296) / 4294967296 + (r3 + (r2 + r1 / 4294967296) % 4294967296) / 4294967296 = a * b / 18446744073709551616 := by
  have ea : a / 4294967296 % 4294967296 = a / 4294967296 := by omega
  have eb : b / 4294967296 % 4294967296 = b / 4294967296 := by omega
  rw [ea] at h2 h4
  rw [eb] at h3 h4
  generalize hA1 : a / 4294967296 = a1 at *
  generalize hA0 : a % 4294967296 = a0 at *
  generalize hB1 : b / 4294967296 = b1 at *
  generalize hB0 : b % 4294967296 = b0 at *
  have hA : a = a1 * 4294967296 + a0 := by omega
  have hB : b = b1 * 4294967296 + b0 := by omega
  have hm : a * b = r4 * 18446744073709551616 + r2 * 4294967296 + r3 * 4294967296 + r1 := by
    rw [hA, hB, h1, h2, h3, h4, Int.add_mul, Int.mul_add, Int.mul_add]
    rw [show a1 * 4294967296 * (b1 * 4294967296) = a1 * b1 * 18446744073709551616 from by rw [Int.mul_assoc, Int.mul_comm b1, ← Int.mul_assoc 4294967296, Int.mul_comm (4294967296 * 4294967296), ← Int.mul_assoc]; rfl]
    rw [show a1 * 4294967296 * b0 = a1 * b0 * 4294967296 from by rw [Int.mul_assoc, Int.mul_comm 4294967296, ← Int.mul_assoc]]
    rw [← Int.mul_assoc a0]
    omega
  rw [hm]
  have n1 : 0 ≤ r1 := by rw [h1]; exact Int.mul_nonneg (by omega) (by omega)
  have n2 : 0 ≤ r2 := by rw [h2]; exact Int.mul_nonneg (by omega) (by omega)
  have n3 : 0 ≤ r3 := by rw [h3]; exact Int.mul_nonneg (by omega) (by omega)
  clear h1 h2 h3 h4 hm hA hB
  omega

set_option maxHeartbeats 800000 in
theorem word_high (w : World) (a b : Nat) (ha : a < 18446744073709551616) (hb : b < 18446744073709551616) :
    Calls Try.prog 32 #[.int .u64 a, .int .u64 b] w fun e w' => e = .returned (.int .u64 (a * b / 18446744073709551616 : Nat)) ∧ w = w' := by
  have a0 : 0 ≤ (a : Int) := by omega
  have b0 : 0 ≤ (b : Int) := by omega
  have a1 : (a : Int) < 18446744073709551616 := by omega
  have b1 : (b : Int) < 18446744073709551616 := by omega
  have A1 := Lib.hid a1; have B1 := Lib.hid b1; have A0 := Lib.hid a0; have B0 := Lib.hid b0
  clear ha hb a0 b0 a1 b1
  go_enter Try.func32, Try.ntmps32
  go_wp2_with fail
  refine (word_part w a b A0.out A1.out B0.out B1.out).mono ?_
  rintro e w' ⟨r1, rfl, e1, l1, u1, rfl⟩
  have E1 := Lib.hid e1; clear e1
  go_wp2_with fail
  refine (word_part w ((a : Int) / 4294967296) b (by have := A0.out; omega) (by have := A1.out; have := A0.out; omega) B0.out B1.out).mono ?_
  rintro e w' ⟨r2, rfl, e2, l2, u2, rfl⟩
  have E2 := Lib.hid e2; clear e2
  have x1 : IntKind.u64.wrap (r2 + r1 / 4294967296) = r2 + r1 / 4294967296 := by rw [u64_wrap]; omega
  have x2 : bits BinOp.and IntKind.u64 (r2 + r1 / 4294967296) 4294967295 = (r2 + r1 / 4294967296) % 4294967296 := mask32i _ (by omega) (by omega)
  go_wp2_with fail
  refine (word_part w a ((b : Int) / 4294967296) A0.out A1.out (by have := B0.out; omega) (by have := B1.out; have := B0.out; omega)).mono ?_
  rintro e w' ⟨r3, rfl, e3, l3, u3, rfl⟩
  have E3 := Lib.hid e3; clear e3
  have x3 : IntKind.u64.wrap (r3 + (r2 + r1 / 4294967296) % 4294967296) = r3 + (r2 + r1 / 4294967296) % 4294967296 := by rw [u64_wrap]; omega
  go_wp2_with fail
  refine (word_part w ((a : Int) / 4294967296) ((b : Int) / 4294967296) (by have := A0.out; omega) (by have := A1.out; have := A0.out; omega) (by have := B0.out; omega) (by have := B1.out; have := B0.out; omega)).mono ?_
  rintro e w' ⟨r4, rfl, e4, l4, u4, rfl⟩
  have E4 := Lib.hid e4; clear e4
  have F := Lib.hid (high_plain a b r1 r2 r3 r4 A0.out A1.out B0.out B1.out E1.out E2.out E3.out E4.out)
  go_wp2_with fail
  go_ret
  exact ⟨ret_int (F.out.trans (by simp)), rfl⟩

theorem word_plainly0 (w : World) (a : Nat) :
    Calls Try.prog 34 #[.int .u64 a, .int .u64 0] w fun e w' => e = .returned (.tuple #[.int .u64 18446744073709551615, .int .u64 a]) ∧ ∃ n, w' = w.drewN n := by
  go_enter Try.func34, Try.ntmps34
  go_wp2_with fail
  go_ret2
  exact ⟨rfl, 0, rfl⟩

theorem ret_two {k1 k2 : IntKind} {a b c d : Int} (h1 : a = b) (h2 : c = d) : Ending.returned (.tuple #[.int k1 a, .int k2 c]) = .returned (.tuple #[.int k1 b, .int k2 d]) := by rw [h1, h2]

theorem word_plainly (w : World) (a b : Nat) (ha : a < 18446744073709551616) (hb : 0 < b) :
    Calls Try.prog 34 #[.int .u64 a, .int .u64 b] w fun e w' => e = .returned (.tuple #[.int .u64 (a / b : Nat), .int .u64 (a % b : Nat)]) ∧ ∃ n, w' = w.drewN n := by
  have h1 : ((b : Int) == 0) = false := by simp; omega
  have h2 : ¬ (b : Int) = 0 := by omega
  have h3 : ¬ b = 0 := by omega
  have F : IntKind.u64.wrap ((a : Int) / (b : Int)) = ((a / b : Nat) : Int) := by
    have e : (a : Int) / (b : Int) = ((a / b : Nat) : Int) := by simp
    rw [e]
    exact u64_wrap_lt _ (Nat.lt_of_le_of_lt (Nat.div_le_self _ _) ha)
  have HF := Lib.hid F; clear F ha
  go_enter Try.func34, Try.ntmps34
  go_wp2_with fail
  go_quiet (fail)
  go_wp2_with fail
  go_ret2
  exact ⟨ret_two HF.out (by simp), _, rfl⟩
end Go.Proofs.Ytcpmjgjefhpgkaa
