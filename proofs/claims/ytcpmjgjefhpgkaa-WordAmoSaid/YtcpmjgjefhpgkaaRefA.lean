/-
  The document's power, Low, Sign, negative, one, less, shift, size by their contracts.
-/
import Derived.Test.YtcpmjgjefhpgkaaWordM
namespace Go.Proofs.Ytcpmjgjefhpgkaa
open Go.RowKit

theorem ref_power (w : World) (n : Nat) (hn : n < 64) :
    Calls Try.prog 26 #[.int .i64 n] w fun e w' => e = .returned (.int .u64 (2 ^ n : Nat)) ∧ w = w' := by
  go_enter Try.func26, Try.ntmps26
  go_wp2_with fail
  go_loop [3, 4] (fun x i => ∃ k : Nat, k ≤ n ∧ Hid (x = .int .u64 ((2 ^ k : Nat) : Int)) ∧ i = .int .i64 k) (fun _ i => n - (intOf i).toNat)
  case atStart => exact ⟨0, Nat.zero_le _, rfl, rfl⟩
  case round =>
    obtain ⟨k, hk, hx, rfl⟩ := hrel
    obtain rfl := hx.out
    clear hx
    have lt0 : k < n ∨ k = n := by omega
    rcases lt0 with hlt | hlt
    · have F : IntKind.u64.wrap (((2 ^ k : Nat) : Int) * 2) = ((2 ^ (k + 1) : Nat) : Int) := by
        have := pow_lt_64 k (by omega)
        have h2 : 2 ^ (k + 1) ≤ 2 ^ 63 := Nat.pow_le_pow_right (by omega) (by omega)
        rw [show ((2 ^ k : Nat) : Int) * 2 = ((2 ^ k * 2 : Nat) : Int) from by omega, u64_wrap_lt _ (by rw [← Nat.pow_succ]; omega), Nat.pow_succ]
      have HF := Lib.hid F
      clear F
      generalize 2 ^ k = y at *
      go_wp2_with fail
      exact ⟨⟨k + 1, by omega, congrArg (Value.int IntKind.u64) HF.out, by go_num⟩, by simp [intOf]; omega⟩
    · subst hlt
      generalize hy : 2 ^ k = y at *
      have HY := Lib.hid hy; clear hy
      go_wp2_with fail
      go_ret
      exact ⟨ret_int (by rw [← HY.out]; simp), rfl⟩

theorem nat_mod_ne {b : Nat} (h : 0 < b) : (((b : Nat) : Int) == 0) = false := by simp; omega

theorem ref_low (w : World) (v : Nat) (n : Int) :
    Calls Try.prog 17 #[.int .u64 v, .int .i64 n] w fun e w' => e = .returned (.int .u64 (wLow v n : Nat)) ∧ w = w' := by
  by_cases h0 : n ≤ 0
  · have e : wLow v n = 0 := by simp [wLow, h0]
    rw [e]
    clear e
    go_enter Try.func17, Try.ntmps17
    go_wp2_with fail
    go_ret
    exact ⟨rfl, rfl⟩
  · by_cases h1 : 64 ≤ n
    · have e : wLow v n = v := by simp [wLow, h0, h1]
      rw [e]
      clear e
      go_enter Try.func17, Try.ntmps17
      go_wp2_with fail
      go_ret
      exact ⟨rfl, rfl⟩
    · obtain ⟨m, rfl⟩ := Int.eq_ofNat_of_zero_le (show 0 ≤ n by omega)
      have e : wLow v (m : Int) = v % 2 ^ m := low_of v m (by omega) (by omega)
      rw [e]
      have g0 : 0 < m := by omega
      have g1 : m < 64 := by omega
      have P := fun W => Lib.hid (ref_power W m g1)
      have hpos := Nat.two_pow_pos m
      have hlt := pow_lt_64 m g1
      generalize 2 ^ m = y at *
      have b0 := nat_mod_ne hpos
      have b1 : ¬ ((y : Int)) = 0 := by omega
      have b2 : ¬ y = 0 := by omega
      have F : ((v : Int)) % (y : Int) = ((v % y : Nat) : Int) := by simp
      have HF := Lib.hid F
      have HP := Lib.hid P
      clear h0 h1 hpos F P e
      go_enter Try.func17, Try.ntmps17
      go_wp2_with fail
      refine (HP.out _).out.mono ?_
      rintro e w' ⟨rfl, rfl⟩
      go_wp2_with fail
      go_ret
      exact ⟨ret_int HF.out, rfl⟩

theorem ref_power' (w : World) (x : Int) (n : Nat) (h : x = n) (hn : n < 64) :
    Calls Try.prog 26 #[.int .i64 x] w fun e w' => e = .returned (.int .u64 (2 ^ n : Nat)) ∧ w = w' := by
  subst h; exact ref_power w n hn

theorem ref_sign (w : World) (v : Nat) (hv : v < 18446744073709551616) (n : Int) :
    Calls Try.prog 15 #[.int .u64 v, .int .i64 n] w fun e w' => e = .returned (.int .u64 (wSign v n : Nat)) ∧ w = w' := by
  have L := Lib.hid (ref_low w v n)
  by_cases h0 : n ≤ 0 ∨ 64 ≤ n
  · have e : wSign v n = wLow v n := by unfold wSign wLow; rcases h0 with h | h <;> simp [h]
    rw [e]
    clear e
    generalize wLow v n = y at *
    rcases h0 with h | h
    · go_enter Try.func15, Try.ntmps15
      go_wp2_with fail
      refine L.out.mono ?_
      rintro e w' ⟨rfl, rfl⟩
      go_wp2_with fail
      go_ret
      exact ⟨rfl, rfl⟩
    · by_cases h2 : n ≤ 0
      · go_enter Try.func15, Try.ntmps15
        go_wp2_with fail
        refine L.out.mono ?_
        rintro e w' ⟨rfl, rfl⟩
        go_wp2_with fail
        go_ret
        exact ⟨rfl, rfl⟩
      · go_enter Try.func15, Try.ntmps15
        go_wp2_with fail
        refine L.out.mono ?_
        rintro e w' ⟨rfl, rfl⟩
        go_wp2_with fail
        go_ret
        exact ⟨rfl, rfl⟩
  · obtain ⟨m, rfl⟩ := Int.eq_ofNat_of_zero_le (show 0 ≤ n by omega)
    have e : wLow v (m : Int) = v % 2 ^ m := low_of v m (by omega) (by omega)
    rw [e] at L
    have e2 := sign_of v m (by omega) (by omega)
    rw [e2]
    have g0 : 0 < m := by omega
    have g1 : m < 64 := by omega
    have g2 : ¬ (m : Int) ≤ 0 := by omega
    have g3 : ¬ m = 0 := by omega
    have g4 : ¬ (64 : Int) ≤ m := by omega
    have P1 := Lib.hid (ref_power w m g1)
    have P2 := Lib.hid (ref_power' w ((m : Int) - 1) (m - 1) (by omega) (by omega))
    have hpos := Nat.two_pow_pos m
    have hlt := pow_lt_64 m g1
    have hl : v % 2 ^ m < 2 ^ m := Nat.mod_lt _ hpos
    generalize 2 ^ m = y at *
    generalize 2 ^ (m - 1) = z at *
    generalize v % y = l at *
    have HL := Lib.hid hl
    have HLT := Lib.hid hlt
    clear h0 hpos e e2 hl hlt
    rcases Nat.lt_or_ge l z with hz | hz
    · have t1 : decide ((z : Int) ≤ (l : Int)) = false := decide_eq_false (by omega)
      have t2 : ¬ z ≤ l := by omega
      rw [if_neg t2]
      go_enter Try.func15, Try.ntmps15
      go_wp2_with fail
      refine L.out.mono ?_
      rintro e w' ⟨rfl, rfl⟩
      go_wp2_with fail
      refine P2.out.mono ?_
      rintro e w' ⟨rfl, rfl⟩
      go_wp2_with fail
      go_ret
      exact ⟨rfl, rfl⟩
    · have t1 : decide ((z : Int) ≤ (l : Int)) = true := decide_eq_true (by omega)
      rw [if_pos hz]
      go_enter Try.func15, Try.ntmps15
      go_wp2_with fail
      refine L.out.mono ?_
      rintro e w' ⟨rfl, rfl⟩
      go_wp2_with fail
      refine P2.out.mono ?_
      rintro e w' ⟨rfl, rfl⟩
      go_wp2_with fail
      refine P1.out.mono ?_
      rintro e w' ⟨rfl, rfl⟩
      go_wp2_with fail
      go_ret
      exact ⟨ret_int (by have := HL.out; have := HLT.out; rw [u64_wrap]; omega), rfl⟩

theorem ref_negative (w : World) (a : Nat) :
    Calls Try.prog 35 #[.int .u64 a] w fun e w' => e = .returned (.bool (decide (9223372036854775808 ≤ a))) ∧ w = w' := by
  go_enter Try.func35, Try.ntmps35
  go_wp2_with fail
  go_ret
  exact ⟨ret_bool (decide_eq_decide.mpr (by omega)), rfl⟩

theorem ref_one (w : World) (b : Bool) :
    Calls Try.prog 36 #[.bool b] w fun e w' => e = .returned (.int .u64 (if b then 1 else 0 : Nat)) ∧ w = w' := by
  cases b with
  | true =>
    go_enter Try.func36, Try.ntmps36
    go_wp2_with fail
    go_ret
    exact ⟨rfl, rfl⟩
  | false =>
    go_enter Try.func36, Try.ntmps36
    go_wp2_with fail
    go_ret
    exact ⟨rfl, rfl⟩

theorem ref_less (w : World) (a b : Nat) (ha : a < 18446744073709551616) (hb : b < 18446744073709551616) :
    Calls Try.prog 30 #[.int .u64 a, .int .u64 b] w fun e w' => e = .returned (.bool (decide (sg a < sg b))) ∧ w = w' := by
  have N1 := Lib.hid (ref_negative w a)
  have N2 := Lib.hid (ref_negative w b)
  by_cases h1 : 9223372036854775808 ≤ a
  · by_cases h2 : 9223372036854775808 ≤ b
    · have F : decide (a < b) = decide (sg a < sg b) := decide_eq_decide.mpr (by unfold sg; split <;> split <;> omega)
      simp only [h1, h2, decide_true, decide_false] at N1 N2
      have HF := Lib.hid F
      clear F ha hb h1 h2
      go_enter Try.func30, Try.ntmps30
      go_wp2_with fail
      refine N1.out.mono ?_
      rintro e w' ⟨rfl, rfl⟩
      go_wp2_with fail
      refine N2.out.mono ?_
      rintro e w' ⟨rfl, rfl⟩
      go_wp2_with fail
      go_ret
      exact ⟨ret_bool ((decide_eq_decide.mpr (by omega)).trans HF.out), rfl⟩
    · have F : decide (sg a < sg b) = decide (9223372036854775808 ≤ a) := decide_eq_decide.mpr (by unfold sg; split <;> split <;> omega)
      simp only [h1, h2, decide_true, decide_false] at N1 N2 F
      have HF := Lib.hid F
      clear F ha hb h1 h2
      go_enter Try.func30, Try.ntmps30
      go_wp2_with fail
      refine N1.out.mono ?_
      rintro e w' ⟨rfl, rfl⟩
      go_wp2_with fail
      refine N2.out.mono ?_
      rintro e w' ⟨rfl, rfl⟩
      go_wp2_with fail
      go_ret
      exact ⟨ret_bool HF.out.symm, rfl⟩
  · by_cases h2 : 9223372036854775808 ≤ b
    · have F : decide (sg a < sg b) = decide (9223372036854775808 ≤ a) := decide_eq_decide.mpr (by unfold sg; split <;> split <;> omega)
      simp only [h1, h2, decide_true, decide_false] at N1 N2 F
      have HF := Lib.hid F
      clear F ha hb h1 h2
      go_enter Try.func30, Try.ntmps30
      go_wp2_with fail
      refine N1.out.mono ?_
      rintro e w' ⟨rfl, rfl⟩
      go_wp2_with fail
      refine N2.out.mono ?_
      rintro e w' ⟨rfl, rfl⟩
      go_wp2_with fail
      go_ret
      exact ⟨ret_bool HF.out.symm, rfl⟩
    · have F : decide (a < b) = decide (sg a < sg b) := decide_eq_decide.mpr (by unfold sg; split <;> split <;> omega)
      simp only [h1, h2, decide_true, decide_false] at N1 N2
      have HF := Lib.hid F
      clear F ha hb h1 h2
      go_enter Try.func30, Try.ntmps30
      go_wp2_with fail
      refine N1.out.mono ?_
      rintro e w' ⟨rfl, rfl⟩
      go_wp2_with fail
      refine N2.out.mono ?_
      rintro e w' ⟨rfl, rfl⟩
      go_wp2_with fail
      go_ret
      exact ⟨ret_bool ((decide_eq_decide.mpr (by omega)).trans HF.out), rfl⟩

/-- what a number is without its sign -/
def wSize (a : Nat) : Nat := if 9223372036854775808 ≤ a then 18446744073709551616 - a else a
theorem ref_size (w : World) (a : Nat) (ha : a < 18446744073709551616) :
    Calls Try.prog 41 #[.int .u64 a] w fun e w' => e = .returned (.int .u64 (wSize a : Nat)) ∧ w = w' := by
  have N1 := Lib.hid (ref_negative w a)
  have HA := Lib.hid ha
  by_cases h1 : 9223372036854775808 ≤ a
  all_goals
    have F : (if 9223372036854775808 ≤ a then (18446744073709551616 - a) else a) = wSize a := rfl
    simp only [h1, decide_true, decide_false, if_true, if_false] at N1 F
    have HF := Lib.hid F
    have H1 := Lib.hid h1
    clear F ha h1
    go_enter Try.func41, Try.ntmps41
    go_wp2_with fail
    refine N1.out.mono ?_
    rintro e w' ⟨rfl, rfl⟩
    go_wp2_with fail
    go_ret
    exact ⟨ret_int (by first | (rw [← HF.out]; done) | (rw [← HF.out, u64_wrap]; have := HA.out; have := H1.out; omega)), rfl⟩
end Go.Proofs.Ytcpmjgjefhpgkaa
