/-
  Plain laws of words: for the statements of layer 1 that do without the document's answer.
-/
import Derived.Test.YtcpmjgjefhpgkaaWdAmo
namespace Go.Proofs.Ytcpmjgjefhpgkaa
open Go.RowKit

theorem low_of (v n : Nat) (h0 : 0 < n) (h1 : n < 64) : wLow v (n : Int) = v % 2 ^ n := by
  simp [wLow, show ¬ n = 0 from by omega, show ¬ (64 : Int) ≤ (n : Int) from by omega]
theorem sign_of (v n : Nat) (h0 : 0 < n) (h1 : n < 64) : wSign v (n : Int) = if 2 ^ (n - 1) ≤ v % 2 ^ n then v % 2 ^ n + (18446744073709551616 - 2 ^ n) else v % 2 ^ n := by
  simp [wSign, show ¬ n = 0 from by omega, show ¬ (64 : Int) ≤ (n : Int) from by omega]
theorem pow_dvd (n : Nat) (h : n ≤ 64) : 18446744073709551616 % 2 ^ n = 0 := by
  have := pow_split n h
  rw [← this]
  exact Nat.mul_mod_left _ _
theorem pow_le_64 (n : Nat) (h : n ≤ 64) : 2 ^ n ≤ 18446744073709551616 := by
  have : 2 ^ n ≤ 2 ^ 64 := Nat.pow_le_pow_right (by omega) h
  omega
/-- the low bits of a number with a sign -/
theorem sign_mod (v n : Nat) (h0 : 0 < n) (h1 : n < 64) : wSign v (n : Int) % 2 ^ n = v % 2 ^ n := by
  have hp := pow_split n (by omega)
  have hle := pow_le_64 n (by omega)
  have hpos := Nat.two_pow_pos n
  rw [sign_of v n h0 h1]
  split
  · have e : 18446744073709551616 - 2 ^ n = 2 ^ n * (2 ^ (64 - n) - 1) := by
      rw [Nat.mul_sub, Nat.mul_comm (2 ^ n) (2 ^ (64 - n)), hp, Nat.mul_one]
    rw [e, Nat.add_mul_mod_self_left, Nat.mod_mod]
  · exact Nat.mod_mod _ _
theorem sign_congr (u v n : Nat) (h0 : 0 < n) (h1 : n < 64) (h : u % 2 ^ n = v % 2 ^ n) : wSign u (n : Int) = wSign v (n : Int) := by
  rw [sign_of u n h0 h1, sign_of v n h0 h1, h]
theorem sign_sign (v : Nat) (n : Int) : wSign (wSign v n) n = wSign v n := by
  by_cases h0 : n ≤ 0
  · simp [wSign, h0]
  · by_cases h1 : 64 ≤ n
    · simp [wSign, h0, h1]
    · obtain ⟨m, rfl⟩ := Int.eq_ofNat_of_zero_le (show 0 ≤ n by omega)
      exact sign_congr _ _ m (by omega) (by omega) (sign_mod v m (by omega) (by omega))
theorem low_sign (v : Nat) (n : Int) : wLow (wSign v n) n = wLow v n := by
  by_cases h0 : n ≤ 0
  · simp [wLow, h0]
  · by_cases h1 : 64 ≤ n
    · simp [wLow, wSign, h0, h1]
    · obtain ⟨m, rfl⟩ := Int.eq_ofNat_of_zero_le (show 0 ≤ n by omega)
      rw [low_of _ m (by omega) (by omega), low_of _ m (by omega) (by omega), sign_mod v m (by omega) (by omega)]
theorem sign_low (v : Nat) (n : Int) : wSign (wLow v n) n = wSign v n := by
  by_cases h0 : n ≤ 0
  · simp [wSign, h0]
  · by_cases h1 : 64 ≤ n
    · simp [wSign, wLow, h0, h1]
    · obtain ⟨m, rfl⟩ := Int.eq_ofNat_of_zero_le (show 0 ≤ n by omega)
      exact sign_congr _ _ m (by omega) (by omega) (by rw [low_of _ m (by omega) (by omega)]; exact Nat.mod_mod _ _)
/-- the bits above are all as the sign -/
theorem sign_top (v n : Nat) (h0 : 0 < n) (h1 : n < 64) : wSign v (n : Int) / 2 ^ n = 0 ∨ wSign v (n : Int) / 2 ^ n = 18446744073709551615 / 2 ^ n := by
  have hp := pow_split n (by omega)
  have hpos := Nat.two_pow_pos n
  have hlt : v % 2 ^ n < 2 ^ n := Nat.mod_lt _ hpos
  have hle := pow_le_64 n (by omega)
  have e : 18446744073709551616 - 2 ^ n = 2 ^ n * (2 ^ (64 - n) - 1) := by
    rw [Nat.mul_sub, Nat.mul_comm (2 ^ n) (2 ^ (64 - n)), hp, Nat.mul_one]
  rw [sign_of v n h0 h1]
  split
  · right
    rw [e, Nat.add_mul_div_left _ _ hpos, Nat.div_eq_of_lt hlt, Nat.zero_add]
    have e2 : 18446744073709551615 = (2 ^ n - 1) + 2 ^ n * (2 ^ (64 - n) - 1) := by rw [← e]; omega
    rw [e2, Nat.add_mul_div_left _ _ hpos, Nat.div_eq_of_lt (by omega), Nat.zero_add]
  · left
    exact Nat.div_eq_of_lt hlt

theorem shl_shr (a n : Nat) (ha : a < 18446744073709551616) (hn : n < 64) : a * 2 ^ n % 18446744073709551616 / 2 ^ n = wLow a (64 - (n : Int)) := by
  have hp := pow_split n (by omega)
  have hpos := Nat.two_pow_pos n
  have e1 : a * 2 ^ n % 18446744073709551616 = a % 2 ^ (64 - n) * 2 ^ n := by rw [← hp, Nat.mul_mod_mul_right]
  rw [e1, Nat.mul_div_cancel _ hpos]
  by_cases h0 : n = 0
  · subst h0
    simp only [wLow]
    rw [if_neg (by omega), if_pos (by omega)]
    exact Nat.mod_eq_of_lt ha
  · rw [show (64 - (n : Int)) = ((64 - n : Nat) : Int) from by omega, low_of _ _ (by omega) (by omega)]
theorem shr_shl (a n : Nat) (ha : a < 18446744073709551616) (hn : n < 64) : (a / 2 ^ n * 2 ^ n % 18446744073709551616 + wLow a (n : Int)) = a := by
  have hpos := Nat.two_pow_pos n
  have hm := Nat.div_add_mod a (2 ^ n)
  have hle : a / 2 ^ n * 2 ^ n ≤ a := Nat.div_mul_le_self a (2 ^ n)
  rw [Nat.mod_eq_of_lt (by omega)]
  by_cases h0 : n = 0
  · subst h0
    simp [wLow]
  · rw [low_of _ _ (by omega) hn, Nat.mul_comm]
    exact hm

theorem un_mod (x : Int) : ((un x : Nat) : Int) % 18446744073709551616 = x % 18446744073709551616 := by unfold un; omega
theorem sg_mod (a : Nat) : sg a % 18446744073709551616 = (a : Int) % 18446744073709551616 := by unfold sg; split <;> omega
theorem div_back (a b : Nat) (ha : a < 18446744073709551616) (hb : b ≠ 0) : (((un (wDiv a b) : Nat) : Int) * (b : Int) % 18446744073709551616 + ((un (wRem a b) : Nat) : Int)) % 18446744073709551616 = (a : Int) := by
  have e1 : wDiv a b = (sg a).tdiv (sg b) := by simp [wDiv, hb]
  have e2 : wRem a b = (sg a).tmod (sg b) := by simp [wRem, hb]
  have e3 : ((un (wDiv a b) : Nat) : Int) * (b : Int) % 18446744073709551616 = (sg a).tdiv (sg b) * sg b % 18446744073709551616 := by
    rw [Int.mul_emod, un_mod, ← sg_mod b, e1, ← Int.mul_emod]
  have e4 := Int.tdiv_mul_add_tmod (sg a) (sg b)
  rw [e3, Int.add_emod, Int.emod_emod_of_dvd _ (Int.dvd_refl _), un_mod, e2, ← Int.add_emod, e4, sg_mod]
  omega
end Go.Proofs.Ytcpmjgjefhpgkaa
