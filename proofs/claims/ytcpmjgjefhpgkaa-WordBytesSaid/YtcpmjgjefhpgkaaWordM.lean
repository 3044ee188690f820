/-
  Plain laws of words, in the walks' own forms.
-/
import Derived.Test.YtcpmjgjefhpgkaaWordL
namespace Go.Proofs.Ytcpmjgjefhpgkaa
open Go.RowKit

theorem u64_nat {a : Int} (h : (Lit.int .u64 a).wf = true) : ∃ n : Nat, a = n ∧ n < 18446744073709551616 := by
  simp [Lit.wf, IntKind.min, IntKind.max, IntKind.signed, IntKind.bits] at h
  obtain ⟨n, rfl⟩ := Int.eq_ofNat_of_zero_le (show 0 ≤ a by omega)
  exact ⟨n, rfl, by omega⟩

theorem rk54 (a b : Nat) : wReckon 54 a b = un (wDiv a b) := rfl
theorem rk56 (a b : Nat) : wReckon 56 a b = un (wRem a b) := rfl
theorem rk55 (a b : Nat) : wReckon 55 a b = if b = 0 then 18446744073709551615 else a / b := rfl
theorem rk57 (a b : Nat) : wReckon 57 a b = if b = 0 then a else a % b := rfl
theorem div0_q (a : Nat) : wReckon 54 a 0 = 18446744073709551615 := by rw [rk54]; simp [wDiv, un]
theorem div0_r (a : Nat) (ha : a < 18446744073709551616) : wReckon 56 a 0 = a := by
  rw [rk56]; simp [wRem]; exact un_sg a ha
theorem div0_p (a : Nat) : wReckon 55 a 0 = 18446744073709551615 := by rw [rk55]; simp
theorem div0_s (a : Nat) : wReckon 57 a 0 = a := by rw [rk57]; simp

theorem divides_q (a b : Nat) (ha : a < 18446744073709551616) (_hb : b < 18446744073709551616) (h : b ≠ 0) :
    IntKind.u64.wrap (IntKind.u64.wrap ((wReckon 54 a b : Int) * b) + (wReckon 56 a b : Int)) = (a : Int) := by
  rw [rk54, rk56, u64_wrap, u64_wrap]
  exact div_back a b ha h
theorem divides_p (a b : Nat) (ha : a < 18446744073709551616) (_hb : b < 18446744073709551616) (h : b ≠ 0) :
    IntKind.u64.wrap (IntKind.u64.wrap ((wReckon 55 a b : Int) * b) + (wReckon 57 a b : Int)) = (a : Int) := by
  rw [rk55, rk57, if_neg h, if_neg h, u64_wrap, u64_wrap, ← Int.natCast_mul]
  have hm := Nat.div_add_mod a b
  rw [Nat.mul_comm] at hm
  have hle := Nat.div_mul_le_self a b
  generalize a / b * b = x at *
  omega
theorem divides_s (a b : Nat) (h : b ≠ 0) : wReckon 57 a b < b := by
  rw [rk57, if_neg h]
  exact Nat.mod_lt _ (by omega)

theorem rk53 (a b : Nat) : wReckon 53 a b = a * b / 18446744073709551616 := rfl
theorem rk51 (a b : Nat) : wReckon 51 a b = un (((a * b / 18446744073709551616 : Nat) : Int) - (if sg a < 0 then (b : Int) else 0) - (if sg b < 0 then (a : Int) else 0)) := rfl
theorem rk52 (a b : Nat) : wReckon 52 a b = un (((a * b / 18446744073709551616 : Nat) : Int) - (if sg a < 0 then (b : Int) else 0)) := rfl
theorem halves_comm (a b : Nat) : wReckon 53 a b = wReckon 53 b a := by rw [rk53, rk53, Nat.mul_comm]
theorem halves_comm2 (a b : Nat) : wReckon 51 a b = wReckon 51 b a := by
  rw [rk51, rk51, Nat.mul_comm]
  congr 1
  omega
theorem sg_neg (a : Nat) : (sg a < 0) = (9223372036854775808 ≤ a ∧ a < 18446744073709551616) := by
  unfold sg
  split
  · simp; omega
  · simp; omega
theorem halves_s (a b : Nat) : IntKind.u64.wrap (IntKind.u64.wrap ((wReckon 53 a b : Int) - (if sg a < 0 then (b : Int) else 0)) - (if sg b < 0 then (a : Int) else 0)) = (wReckon 51 a b : Int) := by
  rw [rk51, ← u64_un, rk53, u64_wrap, u64_wrap, u64_wrap]
  omega
theorem halves_m (a b : Nat) : IntKind.u64.wrap ((wReckon 53 a b : Int) - (if sg a < 0 then (b : Int) else 0)) = (wReckon 52 a b : Int) := by
  rw [rk52, ← u64_un, rk53]

theorem rk37 (a b : Nat) : wReckon 37 a b = un ((a : Int) * 2 ^ (b % 64)) := rfl
theorem rk41 (a b : Nat) : wReckon 41 a b = a / 2 ^ (b % 64) := rfl
theorem shl_nat (a n : Nat) (hn : n < 64) : wReckon 37 a n = a * 2 ^ n % 18446744073709551616 := by
  rw [rk37, Nat.mod_eq_of_lt hn]
  have e : (a : Int) * 2 ^ n = ((a * 2 ^ n : Nat) : Int) := by simp
  rw [e]
  unfold un
  omega
theorem shifts_c (a n : Nat) (ha : a < 18446744073709551616) (hn : n < 64) : wReckon 41 (wReckon 37 a n) n = wLow a (64 - (n : Int)) := by
  rw [rk41, shl_nat a n hn, Nat.mod_eq_of_lt hn]
  exact shl_shr a n ha hn
theorem shifts_e (a n : Nat) (ha : a < 18446744073709551616) (hn : n < 64) : IntKind.u64.wrap ((wReckon 37 (wReckon 41 a n) n : Int) + (wLow a (n : Int) : Int)) = (a : Int) := by
  have h := shr_shl a n ha hn
  rw [shl_nat _ n hn, rk41, Nat.mod_eq_of_lt hn, u64_wrap]
  omega

theorem rk38 (a b : Nat) : wReckon 38 a b = if sg a < sg b then 1 else 0 := rfl
theorem rk39 (a b : Nat) : wReckon 39 a b = if a < b then 1 else 0 := rfl
theorem rk36 (a b : Nat) : wReckon 36 a b = un ((a : Int) - b) := rfl
/-- one of less, the same, greater -/
theorem order_cases (a b : Nat) (ha : a < 18446744073709551616) (hb : b < 18446744073709551616) :
    (¬ a = b ∧ ¬ wReckon 36 a b = 0 ∧ ∃ x y v u : Nat, wReckon 38 a b = x ∧ wReckon 38 b a = y ∧ wReckon 39 a b = v ∧ wReckon 39 b a = u ∧ ((x = 1 ∧ y = 0) ∨ (x = 0 ∧ y = 1)) ∧ ((v = 1 ∧ u = 0) ∨ (v = 0 ∧ u = 1))) ∨
    (a = b ∧ wReckon 38 a a = 0 ∧ wReckon 39 a a = 0 ∧ wReckon 36 a a = 0) := by
  by_cases h : a = b
  · subst h
    exact .inr ⟨rfl, by rw [rk38]; simp, by rw [rk39]; simp, by rw [rk36]; simp [un]⟩
  · refine .inl ⟨h, ?_, _, _, _, _, rfl, rfl, rfl, rfl, ?_, ?_⟩
    · rw [rk36]; unfold un; omega
    · have hs : sg a ≠ sg b := by unfold sg; split <;> split <;> omega
      rw [rk38, rk38]
      rcases Int.lt_or_gt_of_ne hs with h1 | h1
      · left; rw [if_pos h1, if_neg (by omega)]; simp
      · right; rw [if_neg (by omega), if_pos h1]; simp
    · rw [rk39, rk39]
      rcases Nat.lt_or_gt_of_ne h with h1 | h1
      · left; rw [if_pos h1, if_neg (by omega)]; simp
      · right; rw [if_neg (by omega), if_pos h1]; simp

theorem sign32_mod (v : Nat) : wSign v 32 % 32 = v % 32 := by
  have h := sign_mod v 32 (by omega) (by omega)
  have e : (2 : Nat) ^ 32 = 4294967296 := rfl
  rw [e] at h
  have h2 : wSign v ((32 : Nat) : Int) = wSign v 32 := rfl
  rw [h2] at h
  omega
theorem narrow_same (op : Int) (a b : Nat) (h : op = 45 ∨ op = 46 ∨ op = 47 ∨ op = 48 ∨ op = 49 ∨ op = 58 ∨ op = 59 ∨ op = 60 ∨ op = 61 ∨ op = 62) : wReckon op (wLow a 32) (wSign b 32) = wReckon op a b := by
  have h1 := sign_low a 32
  have h2 := sign_sign b 32
  have h3 := sign32_mod b
  have h4 : wOk op = true := by simp [wOk]; omega
  unfold wReckon
  rw [h4]
  simp only [if_true]
  unfold wRk
  rw [h1, h2, h3]
  rcases h with rfl | rfl | rfl | rfl | rfl | rfl | rfl | rfl | rfl | rfl <;> simp
theorem narrow_sign (op : Int) (a b : Nat) (h : op = 45 ∨ op = 46 ∨ op = 47 ∨ op = 48 ∨ op = 49 ∨ op = 58 ∨ op = 59 ∨ op = 60 ∨ op = 61 ∨ op = 62) : wSign (wReckon op a b) 32 = wReckon op a b := by
  have h4 : wOk op = true := by simp [wOk]; omega
  unfold wReckon
  rw [h4]
  simp only [if_true]
  unfold wRk
  rcases h with rfl | rfl | rfl | rfl | rfl | rfl | rfl | rfl | rfl | rfl <;> simp [sign_sign]
end Go.Proofs.Ytcpmjgjefhpgkaa
