/-
  The document's Wide by its contract, at each opcode.
-/
import Derived.Test.YtcpmjgjefhpgkaaRefB
namespace Go.Proofs.Ytcpmjgjefhpgkaa
open Go.RowKit

theorem ref_signed' (w : World) (a b : Nat) (ha : a < 18446744073709551616) (hb : b < 18446744073709551616) :
    Calls Try.prog 39 #[.int .u64 a, .int .u64 b] w fun e w' => e = .returned (.tuple #[.int .u64 (un (wDiv a b) : Nat), .int .u64 (un (wRem a b) : Nat)]) ∧ w = w' := by
  by_cases h : b = 0
  · subst h
    have e1 : un (wDiv a 0) = 18446744073709551615 := by simp [wDiv, un]
    have e2 : un (wRem a 0) = a := by simp [wRem, un_sg a ha]
    rw [e1, e2]
    exact ref_signed0 w a
  · have e1 : wDiv a b = (sg a).tdiv (sg b) := by simp [wDiv, h]
    have e2 : wRem a b = (sg a).tmod (sg b) := by simp [wRem, h]
    rw [e1, e2]
    exact ref_signed w a b ha hb h
theorem sg_neg_iff (a : Nat) (h : a < 18446744073709551616) : (sg a < 0) ↔ (9223372036854775808 ≤ a) := by
  unfold sg; split <;> omega

set_option maxRecDepth 100000 in
set_option maxHeartbeats 800000 in
theorem rwide_35 (w : World) (a b : Nat) (ha : a < 18446744073709551616) (hb : b < 18446744073709551616) :
    Calls Try.prog 29 #[.int .i64 35, .int .u64 a, .int .u64 b] w (WidePost w (wWide 35 a b)) := by
  have N1 := fun W => Lib.hid (ref_negative W a)
  have N2 := fun W => Lib.hid (ref_negative W b)
  obtain ⟨na, hna⟩ : ∃ na, na = decide (9223372036854775808 ≤ a) := ⟨_, rfl⟩
  obtain ⟨nb, hnb⟩ : ∃ nb, nb = decide (9223372036854775808 ≤ b) := ⟨_, rfl⟩
  rw [← hna] at N1
  rw [← hnb] at N2
  have M1 := Lib.hid N1; have M2 := Lib.hid N2
  have FS : (b : Int) % 64 = ((b % 64 : Nat) : Int) := by simp
  have hs : b % 64 < 64 := Nat.mod_lt _ (by omega)
  have FW : IntKind.i64.wrap ((b % 64 : Nat) : Int) = ((b % 64 : Nat) : Int) := by simp [IntKind.wrap, IntKind.bits, IntKind.signed]; omega
  clear N1 N2
  have F := Lib.hid (show IntKind.u64.wrap ((a : Int) + b) = ((wWide 35 a b : Nat) : Int) from u64_un _)
  generalize wWide 35 a b = g at *
  clear hna hnb
  generalize b % 64 = s at *
  clear ha hb
  go_enter Try.func29, Try.ntmps29
  go_wp2_with fail
  refine (M1.out _).out.mono ?_
  rintro e w' ⟨rfl, rfl⟩
  go_wp2_with fail
  refine (M2.out _).out.mono ?_
  rintro e w' ⟨rfl, rfl⟩
  go_wp2_with fail
  go_ret
  exact wide_mk0 (F.out)

set_option maxRecDepth 100000 in
set_option maxHeartbeats 800000 in
theorem rwide_36 (w : World) (a b : Nat) (ha : a < 18446744073709551616) (hb : b < 18446744073709551616) :
    Calls Try.prog 29 #[.int .i64 36, .int .u64 a, .int .u64 b] w (WidePost w (wWide 36 a b)) := by
  have N1 := fun W => Lib.hid (ref_negative W a)
  have N2 := fun W => Lib.hid (ref_negative W b)
  obtain ⟨na, hna⟩ : ∃ na, na = decide (9223372036854775808 ≤ a) := ⟨_, rfl⟩
  obtain ⟨nb, hnb⟩ : ∃ nb, nb = decide (9223372036854775808 ≤ b) := ⟨_, rfl⟩
  rw [← hna] at N1
  rw [← hnb] at N2
  have M1 := Lib.hid N1; have M2 := Lib.hid N2
  have FS : (b : Int) % 64 = ((b % 64 : Nat) : Int) := by simp
  have hs : b % 64 < 64 := Nat.mod_lt _ (by omega)
  have FW : IntKind.i64.wrap ((b % 64 : Nat) : Int) = ((b % 64 : Nat) : Int) := by simp [IntKind.wrap, IntKind.bits, IntKind.signed]; omega
  clear N1 N2
  have F := Lib.hid (show IntKind.u64.wrap ((a : Int) - b) = ((wWide 36 a b : Nat) : Int) from u64_un _)
  generalize wWide 36 a b = g at *
  clear hna hnb
  generalize b % 64 = s at *
  clear ha hb
  go_enter Try.func29, Try.ntmps29
  go_wp2_with fail
  refine (M1.out _).out.mono ?_
  rintro e w' ⟨rfl, rfl⟩
  go_wp2_with fail
  refine (M2.out _).out.mono ?_
  rintro e w' ⟨rfl, rfl⟩
  go_wp2_with fail
  go_ret
  exact wide_mk0 (F.out)

set_option maxRecDepth 100000 in
set_option maxHeartbeats 800000 in
theorem rwide_50 (w : World) (a b : Nat) (ha : a < 18446744073709551616) (hb : b < 18446744073709551616) :
    Calls Try.prog 29 #[.int .i64 50, .int .u64 a, .int .u64 b] w (WidePost w (wWide 50 a b)) := by
  have N1 := fun W => Lib.hid (ref_negative W a)
  have N2 := fun W => Lib.hid (ref_negative W b)
  obtain ⟨na, hna⟩ : ∃ na, na = decide (9223372036854775808 ≤ a) := ⟨_, rfl⟩
  obtain ⟨nb, hnb⟩ : ∃ nb, nb = decide (9223372036854775808 ≤ b) := ⟨_, rfl⟩
  rw [← hna] at N1
  rw [← hnb] at N2
  have M1 := Lib.hid N1; have M2 := Lib.hid N2
  have FS : (b : Int) % 64 = ((b % 64 : Nat) : Int) := by simp
  have hs : b % 64 < 64 := Nat.mod_lt _ (by omega)
  have FW : IntKind.i64.wrap ((b % 64 : Nat) : Int) = ((b % 64 : Nat) : Int) := by simp [IntKind.wrap, IntKind.bits, IntKind.signed]; omega
  clear N1 N2
  have F := Lib.hid (show IntKind.u64.wrap ((a : Int) * b) = ((wWide 50 a b : Nat) : Int) from u64_un _)
  generalize wWide 50 a b = g at *
  clear hna hnb
  generalize b % 64 = s at *
  clear ha hb
  go_enter Try.func29, Try.ntmps29
  go_wp2_with fail
  refine (M1.out _).out.mono ?_
  rintro e w' ⟨rfl, rfl⟩
  go_wp2_with fail
  refine (M2.out _).out.mono ?_
  rintro e w' ⟨rfl, rfl⟩
  go_wp2_with fail
  go_ret
  exact wide_mk0 (F.out)

set_option maxRecDepth 100000 in
set_option maxHeartbeats 800000 in
theorem rwide_40 (w : World) (a b : Nat) (ha : a < 18446744073709551616) (hb : b < 18446744073709551616) :
    Calls Try.prog 29 #[.int .i64 40, .int .u64 a, .int .u64 b] w (WidePost w (wWide 40 a b)) := by
  have N1 := fun W => Lib.hid (ref_negative W a)
  have N2 := fun W => Lib.hid (ref_negative W b)
  obtain ⟨na, hna⟩ : ∃ na, na = decide (9223372036854775808 ≤ a) := ⟨_, rfl⟩
  obtain ⟨nb, hnb⟩ : ∃ nb, nb = decide (9223372036854775808 ≤ b) := ⟨_, rfl⟩
  rw [← hna] at N1
  rw [← hnb] at N2
  have M1 := Lib.hid N1; have M2 := Lib.hid N2
  have FS : (b : Int) % 64 = ((b % 64 : Nat) : Int) := by simp
  have hs : b % 64 < 64 := Nat.mod_lt _ (by omega)
  have FW : IntKind.i64.wrap ((b % 64 : Nat) : Int) = ((b % 64 : Nat) : Int) := by simp [IntKind.wrap, IntKind.bits, IntKind.signed]; omega
  clear N1 N2
  have F := Lib.hid (show bits BinOp.xor IntKind.u64 (a : Int) b = ((wWide 40 a b : Nat) : Int) from u64_xor_nat a b ha hb)
  generalize wWide 40 a b = g at *
  clear hna hnb
  generalize b % 64 = s at *
  clear ha hb
  go_enter Try.func29, Try.ntmps29
  go_wp2_with fail
  refine (M1.out _).out.mono ?_
  rintro e w' ⟨rfl, rfl⟩
  go_wp2_with fail
  refine (M2.out _).out.mono ?_
  rintro e w' ⟨rfl, rfl⟩
  go_wp2_with fail
  go_ret
  exact wide_mk0 (F.out)

set_option maxRecDepth 100000 in
set_option maxHeartbeats 800000 in
theorem rwide_43 (w : World) (a b : Nat) (ha : a < 18446744073709551616) (hb : b < 18446744073709551616) :
    Calls Try.prog 29 #[.int .i64 43, .int .u64 a, .int .u64 b] w (WidePost w (wWide 43 a b)) := by
  have N1 := fun W => Lib.hid (ref_negative W a)
  have N2 := fun W => Lib.hid (ref_negative W b)
  obtain ⟨na, hna⟩ : ∃ na, na = decide (9223372036854775808 ≤ a) := ⟨_, rfl⟩
  obtain ⟨nb, hnb⟩ : ∃ nb, nb = decide (9223372036854775808 ≤ b) := ⟨_, rfl⟩
  rw [← hna] at N1
  rw [← hnb] at N2
  have M1 := Lib.hid N1; have M2 := Lib.hid N2
  have FS : (b : Int) % 64 = ((b % 64 : Nat) : Int) := by simp
  have hs : b % 64 < 64 := Nat.mod_lt _ (by omega)
  have FW : IntKind.i64.wrap ((b % 64 : Nat) : Int) = ((b % 64 : Nat) : Int) := by simp [IntKind.wrap, IntKind.bits, IntKind.signed]; omega
  clear N1 N2
  have F := Lib.hid (show bits BinOp.or IntKind.u64 (a : Int) b = ((wWide 43 a b : Nat) : Int) from u64_or_nat a b ha hb)
  generalize wWide 43 a b = g at *
  clear hna hnb
  generalize b % 64 = s at *
  clear ha hb
  go_enter Try.func29, Try.ntmps29
  go_wp2_with fail
  refine (M1.out _).out.mono ?_
  rintro e w' ⟨rfl, rfl⟩
  go_wp2_with fail
  refine (M2.out _).out.mono ?_
  rintro e w' ⟨rfl, rfl⟩
  go_wp2_with fail
  go_ret
  exact wide_mk0 (F.out)

set_option maxRecDepth 100000 in
set_option maxHeartbeats 800000 in
theorem rwide_44 (w : World) (a b : Nat) (ha : a < 18446744073709551616) (hb : b < 18446744073709551616) :
    Calls Try.prog 29 #[.int .i64 44, .int .u64 a, .int .u64 b] w (WidePost w (wWide 44 a b)) := by
  have N1 := fun W => Lib.hid (ref_negative W a)
  have N2 := fun W => Lib.hid (ref_negative W b)
  obtain ⟨na, hna⟩ : ∃ na, na = decide (9223372036854775808 ≤ a) := ⟨_, rfl⟩
  obtain ⟨nb, hnb⟩ : ∃ nb, nb = decide (9223372036854775808 ≤ b) := ⟨_, rfl⟩
  rw [← hna] at N1
  rw [← hnb] at N2
  have M1 := Lib.hid N1; have M2 := Lib.hid N2
  have FS : (b : Int) % 64 = ((b % 64 : Nat) : Int) := by simp
  have hs : b % 64 < 64 := Nat.mod_lt _ (by omega)
  have FW : IntKind.i64.wrap ((b % 64 : Nat) : Int) = ((b % 64 : Nat) : Int) := by simp [IntKind.wrap, IntKind.bits, IntKind.signed]; omega
  clear N1 N2
  have F := Lib.hid (show bits BinOp.and IntKind.u64 (a : Int) b = ((wWide 44 a b : Nat) : Int) from u64_and_nat a b ha hb)
  generalize wWide 44 a b = g at *
  clear hna hnb
  generalize b % 64 = s at *
  clear ha hb
  go_enter Try.func29, Try.ntmps29
  go_wp2_with fail
  refine (M1.out _).out.mono ?_
  rintro e w' ⟨rfl, rfl⟩
  go_wp2_with fail
  refine (M2.out _).out.mono ?_
  rintro e w' ⟨rfl, rfl⟩
  go_wp2_with fail
  go_ret
  exact wide_mk0 (F.out)

set_option maxRecDepth 100000 in
set_option maxHeartbeats 800000 in
theorem rwide_37 (w : World) (a b : Nat) (ha : a < 18446744073709551616) (hb : b < 18446744073709551616) :
    Calls Try.prog 29 #[.int .i64 37, .int .u64 a, .int .u64 b] w (WidePost w (wWide 37 a b)) := by
  have N1 := fun W => Lib.hid (ref_negative W a)
  have N2 := fun W => Lib.hid (ref_negative W b)
  obtain ⟨na, hna⟩ : ∃ na, na = decide (9223372036854775808 ≤ a) := ⟨_, rfl⟩
  obtain ⟨nb, hnb⟩ : ∃ nb, nb = decide (9223372036854775808 ≤ b) := ⟨_, rfl⟩
  rw [← hna] at N1
  rw [← hnb] at N2
  have M1 := Lib.hid N1; have M2 := Lib.hid N2
  have FS : (b : Int) % 64 = ((b % 64 : Nat) : Int) := by simp
  have hs : b % 64 < 64 := Nat.mod_lt _ (by omega)
  have FW : IntKind.i64.wrap ((b % 64 : Nat) : Int) = ((b % 64 : Nat) : Int) := by simp [IntKind.wrap, IntKind.bits, IntKind.signed]; omega
  clear N1 N2
  have P := Lib.hid (ref_power w (b % 64) hs)
  have F := Lib.hid (show IntKind.u64.wrap ((a : Int) * ((2 ^ (b % 64) : Nat) : Int)) = ((wWide 37 a b : Nat) : Int) from (by have h : wWide 37 a b = un ((a : Int) * 2 ^ (b % 64)) := rfl; have := u64_un ((a : Int) * 2 ^ (b % 64)); rw [h]; simpa using this))
  generalize wWide 37 a b = g at *
  generalize 2 ^ (b % 64) = y at *
  clear hna hnb
  generalize b % 64 = s at *
  clear ha hb
  go_enter Try.func29, Try.ntmps29
  go_wp2_with fail
  refine (M1.out _).out.mono ?_
  rintro e w' ⟨rfl, rfl⟩
  go_wp2_with fail
  refine (M2.out _).out.mono ?_
  rintro e w' ⟨rfl, rfl⟩
  go_wp2_with fail
  refine P.out.mono ?_
  rintro e w' ⟨rfl, rfl⟩
  go_wp2_with fail
  go_ret
  exact wide_mk0 (F.out)

set_option maxRecDepth 100000 in
set_option maxHeartbeats 800000 in
theorem rwide_41 (w : World) (a b : Nat) (ha : a < 18446744073709551616) (hb : b < 18446744073709551616) :
    Calls Try.prog 29 #[.int .i64 41, .int .u64 a, .int .u64 b] w (WidePost w (wWide 41 a b)) := by
  have N1 := fun W => Lib.hid (ref_negative W a)
  have N2 := fun W => Lib.hid (ref_negative W b)
  obtain ⟨na, hna⟩ : ∃ na, na = decide (9223372036854775808 ≤ a) := ⟨_, rfl⟩
  obtain ⟨nb, hnb⟩ : ∃ nb, nb = decide (9223372036854775808 ≤ b) := ⟨_, rfl⟩
  rw [← hna] at N1
  rw [← hnb] at N2
  have M1 := Lib.hid N1; have M2 := Lib.hid N2
  have FS : (b : Int) % 64 = ((b % 64 : Nat) : Int) := by simp
  have hs : b % 64 < 64 := Nat.mod_lt _ (by omega)
  have FW : IntKind.i64.wrap ((b % 64 : Nat) : Int) = ((b % 64 : Nat) : Int) := by simp [IntKind.wrap, IntKind.bits, IntKind.signed]; omega
  clear N1 N2
  have P := Lib.hid (ref_shift0 w a (b % 64) ha hs)
  have F := Lib.hid (show ((a / 2 ^ (b % 64) : Nat) : Int) = ((wWide 41 a b : Nat) : Int) from rfl)
  generalize wWide 41 a b = g at *
  generalize a / 2 ^ (b % 64) = y at *
  clear hna hnb
  generalize b % 64 = s at *
  clear ha hb
  go_enter Try.func29, Try.ntmps29
  go_wp2_with fail
  refine (M1.out _).out.mono ?_
  rintro e w' ⟨rfl, rfl⟩
  go_wp2_with fail
  refine (M2.out _).out.mono ?_
  rintro e w' ⟨rfl, rfl⟩
  go_wp2_with fail
  refine P.out.mono ?_
  rintro e w' ⟨rfl, rfl⟩
  go_wp2_with fail
  go_ret
  exact wide_mk0 (F.out)

set_option maxRecDepth 100000 in
set_option maxHeartbeats 800000 in
theorem rwide_53 (w : World) (a b : Nat) (ha : a < 18446744073709551616) (hb : b < 18446744073709551616) :
    Calls Try.prog 29 #[.int .i64 53, .int .u64 a, .int .u64 b] w (WidePost w (wWide 53 a b)) := by
  have N1 := fun W => Lib.hid (ref_negative W a)
  have N2 := fun W => Lib.hid (ref_negative W b)
  obtain ⟨na, hna⟩ : ∃ na, na = decide (9223372036854775808 ≤ a) := ⟨_, rfl⟩
  obtain ⟨nb, hnb⟩ : ∃ nb, nb = decide (9223372036854775808 ≤ b) := ⟨_, rfl⟩
  rw [← hna] at N1
  rw [← hnb] at N2
  have M1 := Lib.hid N1; have M2 := Lib.hid N2
  have FS : (b : Int) % 64 = ((b % 64 : Nat) : Int) := by simp
  have hs : b % 64 < 64 := Nat.mod_lt _ (by omega)
  have FW : IntKind.i64.wrap ((b % 64 : Nat) : Int) = ((b % 64 : Nat) : Int) := by simp [IntKind.wrap, IntKind.bits, IntKind.signed]; omega
  clear N1 N2
  have P := Lib.hid (ref_high w a b ha hb)
  have F := Lib.hid (show ((a * b / 18446744073709551616 : Nat) : Int) = ((wWide 53 a b : Nat) : Int) from rfl)
  generalize wWide 53 a b = g at *
  generalize a * b / 18446744073709551616 = y at *
  clear hna hnb
  generalize b % 64 = s at *
  clear ha hb
  go_enter Try.func29, Try.ntmps29
  go_wp2_with fail
  refine (M1.out _).out.mono ?_
  rintro e w' ⟨rfl, rfl⟩
  go_wp2_with fail
  refine (M2.out _).out.mono ?_
  rintro e w' ⟨rfl, rfl⟩
  go_wp2_with fail
  refine P.out.mono ?_
  rintro e w' ⟨rfl, rfl⟩
  go_wp2_with fail
  go_ret
  exact wide_mk0 (F.out)

set_option maxRecDepth 100000 in
set_option maxHeartbeats 800000 in
theorem rwide_38 (w : World) (a b : Nat) (ha : a < 18446744073709551616) (hb : b < 18446744073709551616) :
    Calls Try.prog 29 #[.int .i64 38, .int .u64 a, .int .u64 b] w (WidePost w (wWide 38 a b)) := by
  have N1 := fun W => Lib.hid (ref_negative W a)
  have N2 := fun W => Lib.hid (ref_negative W b)
  obtain ⟨na, hna⟩ : ∃ na, na = decide (9223372036854775808 ≤ a) := ⟨_, rfl⟩
  obtain ⟨nb, hnb⟩ : ∃ nb, nb = decide (9223372036854775808 ≤ b) := ⟨_, rfl⟩
  rw [← hna] at N1
  rw [← hnb] at N2
  have M1 := Lib.hid N1; have M2 := Lib.hid N2
  have FS : (b : Int) % 64 = ((b % 64 : Nat) : Int) := by simp
  have hs : b % 64 < 64 := Nat.mod_lt _ (by omega)
  have FW : IntKind.i64.wrap ((b % 64 : Nat) : Int) = ((b % 64 : Nat) : Int) := by simp [IntKind.wrap, IntKind.bits, IntKind.signed]; omega
  clear N1 N2
  have P := Lib.hid (ref_less w a b ha hb)
  have F : ((if decide (sg a < sg b) then 1 else 0 : Nat) : Int) = ((wWide 38 a b : Nat) : Int) := by simp [wWide]
  have HF := Lib.hid F; clear F
  generalize wWide 38 a b = g at *
  generalize decide (sg a < sg b) = c at *
  have O := Lib.hid (ref_one w c)
  clear hna hnb
  generalize b % 64 = s at *
  clear ha hb
  generalize (if c then 1 else 0 : Nat) = z at *
  go_enter Try.func29, Try.ntmps29
  go_wp2_with fail
  refine (M1.out _).out.mono ?_
  rintro e w' ⟨rfl, rfl⟩
  go_wp2_with fail
  refine (M2.out _).out.mono ?_
  rintro e w' ⟨rfl, rfl⟩
  go_wp2_with fail
  refine P.out.mono ?_
  rintro e w' ⟨rfl, rfl⟩
  go_wp2_with fail
  refine O.out.mono ?_
  rintro e w' ⟨rfl, rfl⟩
  go_wp2_with fail
  go_ret
  exact wide_mk0 HF.out

set_option maxRecDepth 100000 in
set_option maxHeartbeats 800000 in
theorem rwide_39 (w : World) (a b : Nat) (ha : a < 18446744073709551616) (hb : b < 18446744073709551616) :
    Calls Try.prog 29 #[.int .i64 39, .int .u64 a, .int .u64 b] w (WidePost w (wWide 39 a b)) := by
  have N1 := fun W => Lib.hid (ref_negative W a)
  have N2 := fun W => Lib.hid (ref_negative W b)
  obtain ⟨na, hna⟩ : ∃ na, na = decide (9223372036854775808 ≤ a) := ⟨_, rfl⟩
  obtain ⟨nb, hnb⟩ : ∃ nb, nb = decide (9223372036854775808 ≤ b) := ⟨_, rfl⟩
  rw [← hna] at N1
  rw [← hnb] at N2
  have M1 := Lib.hid N1; have M2 := Lib.hid N2
  have FS : (b : Int) % 64 = ((b % 64 : Nat) : Int) := by simp
  have hs : b % 64 < 64 := Nat.mod_lt _ (by omega)
  have FW : IntKind.i64.wrap ((b % 64 : Nat) : Int) = ((b % 64 : Nat) : Int) := by simp [IntKind.wrap, IntKind.bits, IntKind.signed]; omega
  clear N1 N2
  have F : ((if decide (a < b) then 1 else 0 : Nat) : Int) = ((wWide 39 a b : Nat) : Int) := by simp [wWide]
  have HF := Lib.hid F; clear F
  generalize wWide 39 a b = g at *
  have hc : decide ((a : Int) < (b : Int)) = decide (a < b) := decide_eq_decide.mpr (by omega)
  have O := Lib.hid (ref_one w (decide (a < b)))
  generalize (if decide (a < b) then 1 else 0 : Nat) = z at *
  clear hna hnb
  generalize b % 64 = s at *
  clear ha hb
  go_enter Try.func29, Try.ntmps29
  go_wp2_with fail
  refine (M1.out _).out.mono ?_
  rintro e w' ⟨rfl, rfl⟩
  go_wp2_with fail
  refine (M2.out _).out.mono ?_
  rintro e w' ⟨rfl, rfl⟩
  go_wp2_with fail
  refine O.out.mono ?_
  rintro e w' ⟨rfl, rfl⟩
  go_wp2_with fail
  go_ret
  exact wide_mk0 HF.out

set_option maxRecDepth 100000 in
set_option maxHeartbeats 800000 in
theorem rwide_42 (w : World) (a b : Nat) (ha : a < 18446744073709551616) (hb : b < 18446744073709551616) :
    Calls Try.prog 29 #[.int .i64 42, .int .u64 a, .int .u64 b] w (WidePost w (wWide 42 a b)) := by
  have N1 := fun W => Lib.hid (ref_negative W a)
  have N2 := fun W => Lib.hid (ref_negative W b)
  obtain ⟨na, hna⟩ : ∃ na, na = decide (9223372036854775808 ≤ a) := ⟨_, rfl⟩
  obtain ⟨nb, hnb⟩ : ∃ nb, nb = decide (9223372036854775808 ≤ b) := ⟨_, rfl⟩
  rw [← hna] at N1
  rw [← hnb] at N2
  have M1 := Lib.hid N1; have M2 := Lib.hid N2
  have FS : (b : Int) % 64 = ((b % 64 : Nat) : Int) := by simp
  have hs : b % 64 < 64 := Nat.mod_lt _ (by omega)
  have FW : IntKind.i64.wrap ((b % 64 : Nat) : Int) = ((b % 64 : Nat) : Int) := by simp [IntKind.wrap, IntKind.bits, IntKind.signed]; omega
  clear N1 N2
  have O := Lib.hid (ref_one w na)
  have P : Calls Try.prog 37 #[.int .u64 a, .int .i64 ((b % 64 : Nat) : Int), .int .u64 (if na then 1 else 0 : Nat)] w fun e w' => e = .returned (.int .u64 (wWide 42 a b : Nat)) ∧ w = w' := by
    show Calls _ _ _ _ fun e w' => e = .returned (.int .u64 (un (sg a / 2 ^ (b % 64)) : Nat)) ∧ w = w'
    by_cases h : 9223372036854775808 ≤ a
    · rw [hna, show decide (9223372036854775808 ≤ a) = true from decide_eq_true h]
      exact ref_shift1 w a _ ha h hs
    · rw [hna, show decide (9223372036854775808 ≤ a) = false from decide_eq_false h]
      have e : sg a = (a : Int) := by unfold sg; rw [if_pos (by omega)]
      have e2 : un ((a : Int) / 2 ^ (b % 64)) = a / 2 ^ (b % 64) := by
        have : ((a : Int) / 2 ^ (b % 64)) = ((a / 2 ^ (b % 64) : Nat) : Int) := by simp
        rw [this]
        exact un_nat _ (Nat.lt_of_le_of_lt (Nat.div_le_self _ _) ha)
      rw [e, e2]
      exact ref_shift0 w a _ ha hs
  have HP := Lib.hid P; clear P
  generalize wWide 42 a b = g at *
  clear hna hnb
  generalize b % 64 = s at *
  clear ha hb
  generalize (if na then 1 else 0 : Nat) = z at *
  go_enter Try.func29, Try.ntmps29
  go_wp2_with fail
  refine (M1.out _).out.mono ?_
  rintro e w' ⟨rfl, rfl⟩
  go_wp2_with fail
  refine (M2.out _).out.mono ?_
  rintro e w' ⟨rfl, rfl⟩
  go_wp2_with fail
  refine O.out.mono ?_
  rintro e w' ⟨rfl, rfl⟩
  go_wp2_with fail
  refine HP.out.mono ?_
  rintro e w' ⟨rfl, rfl⟩
  go_wp2_with fail
  go_ret
  exact wide_mk0 rfl

set_option maxRecDepth 100000 in
set_option maxHeartbeats 800000 in
theorem rwide_51 (w : World) (a b : Nat) (ha : a < 18446744073709551616) (hb : b < 18446744073709551616) :
    Calls Try.prog 29 #[.int .i64 51, .int .u64 a, .int .u64 b] w (WidePost w (wWide 51 a b)) := by
  have N1 := fun W => Lib.hid (ref_negative W a)
  have N2 := fun W => Lib.hid (ref_negative W b)
  obtain ⟨na, hna⟩ : ∃ na, na = decide (9223372036854775808 ≤ a) := ⟨_, rfl⟩
  obtain ⟨nb, hnb⟩ : ∃ nb, nb = decide (9223372036854775808 ≤ b) := ⟨_, rfl⟩
  rw [← hna] at N1
  rw [← hnb] at N2
  have M1 := Lib.hid N1; have M2 := Lib.hid N2
  have FS : (b : Int) % 64 = ((b % 64 : Nat) : Int) := by simp
  have hs : b % 64 < 64 := Nat.mod_lt _ (by omega)
  have FW : IntKind.i64.wrap ((b % 64 : Nat) : Int) = ((b % 64 : Nat) : Int) := by simp [IntKind.wrap, IntKind.bits, IntKind.signed]; omega
  clear N1 N2
  have P := Lib.hid (ref_high w a b ha hb)
  have qlt : a * b / 18446744073709551616 < 18446744073709551616 := by
    apply Nat.div_lt_of_lt_mul
    exact Nat.mul_lt_mul'' ha hb
  have F0 : na = false → nb = false → ((a * b / 18446744073709551616 : Nat) : Int) = ((wWide 51 a b : Nat) : Int) := by
    intro h1 h2
    show _ = ((un _ : Nat) : Int)
    rw [if_neg (mt (sg_neg_iff a ha).mp (of_decide_eq_false (hna.symm.trans h1))), if_neg (mt (sg_neg_iff b hb).mp (of_decide_eq_false (hnb.symm.trans h2))), Int.sub_zero, Int.sub_zero, un_nat _ qlt]
  have F1 : na = true → nb = false → IntKind.u64.wrap (((a * b / 18446744073709551616 : Nat) : Int) - b) = ((wWide 51 a b : Nat) : Int) := by
    intro h1 h2
    show _ = ((un _ : Nat) : Int)
    rw [if_pos ((sg_neg_iff a ha).mpr (of_decide_eq_true (hna.symm.trans h1))), if_neg (mt (sg_neg_iff b hb).mp (of_decide_eq_false (hnb.symm.trans h2))), Int.sub_zero, u64_un]
  have F2 : na = false → nb = true → IntKind.u64.wrap (((a * b / 18446744073709551616 : Nat) : Int) - a) = ((wWide 51 a b : Nat) : Int) := by
    intro h1 h2
    show _ = ((un _ : Nat) : Int)
    rw [if_neg (mt (sg_neg_iff a ha).mp (of_decide_eq_false (hna.symm.trans h1))), if_pos ((sg_neg_iff b hb).mpr (of_decide_eq_true (hnb.symm.trans h2))), Int.sub_zero, u64_un]
  have F3 : na = true → nb = true → IntKind.u64.wrap (IntKind.u64.wrap (((a * b / 18446744073709551616 : Nat) : Int) - b) - a) = ((wWide 51 a b : Nat) : Int) := by
    intro h1 h2
    show _ = ((un _ : Nat) : Int)
    rw [if_pos ((sg_neg_iff a ha).mpr (of_decide_eq_true (hna.symm.trans h1))), if_pos ((sg_neg_iff b hb).mpr (of_decide_eq_true (hnb.symm.trans h2))), ← u64_un, u64_wrap, u64_wrap, u64_wrap]
    omega
  have HF := Lib.hid (And.intro F0 (And.intro F1 (And.intro F2 F3)))
  clear F0 F1 F2 F3 qlt
  generalize a * b / 18446744073709551616 = q at *
  generalize wWide 51 a b = g at *
  clear hna hnb
  generalize b % 64 = s at *
  clear ha hb
  cases na <;> cases nb
  · have F := Lib.hid (HF.out.1 rfl rfl)
    clear HF
    go_enter Try.func29, Try.ntmps29
    go_wp2_with fail
    refine (M1.out _).out.mono ?_
    rintro e w' ⟨rfl, rfl⟩
    go_wp2_with fail
    refine (M2.out _).out.mono ?_
    rintro e w' ⟨rfl, rfl⟩
    go_wp2_with fail
    refine P.out.mono ?_
    rintro e w' ⟨rfl, rfl⟩
    go_wp2_with fail
    go_ret
    exact wide_mk0 F.out
  · have F := Lib.hid (HF.out.2.2.1 rfl rfl)
    clear HF
    go_enter Try.func29, Try.ntmps29
    go_wp2_with fail
    refine (M1.out _).out.mono ?_
    rintro e w' ⟨rfl, rfl⟩
    go_wp2_with fail
    refine (M2.out _).out.mono ?_
    rintro e w' ⟨rfl, rfl⟩
    go_wp2_with fail
    refine P.out.mono ?_
    rintro e w' ⟨rfl, rfl⟩
    go_wp2_with fail
    go_ret
    exact wide_mk0 F.out
  · have F := Lib.hid (HF.out.2.1 rfl rfl)
    clear HF
    go_enter Try.func29, Try.ntmps29
    go_wp2_with fail
    refine (M1.out _).out.mono ?_
    rintro e w' ⟨rfl, rfl⟩
    go_wp2_with fail
    refine (M2.out _).out.mono ?_
    rintro e w' ⟨rfl, rfl⟩
    go_wp2_with fail
    refine P.out.mono ?_
    rintro e w' ⟨rfl, rfl⟩
    go_wp2_with fail
    go_ret
    exact wide_mk0 F.out
  · have F := Lib.hid (HF.out.2.2.2 rfl rfl)
    clear HF
    go_enter Try.func29, Try.ntmps29
    go_wp2_with fail
    refine (M1.out _).out.mono ?_
    rintro e w' ⟨rfl, rfl⟩
    go_wp2_with fail
    refine (M2.out _).out.mono ?_
    rintro e w' ⟨rfl, rfl⟩
    go_wp2_with fail
    refine P.out.mono ?_
    rintro e w' ⟨rfl, rfl⟩
    go_wp2_with fail
    go_ret
    exact wide_mk0 F.out

set_option maxRecDepth 100000 in
set_option maxHeartbeats 800000 in
theorem rwide_52 (w : World) (a b : Nat) (ha : a < 18446744073709551616) (hb : b < 18446744073709551616) :
    Calls Try.prog 29 #[.int .i64 52, .int .u64 a, .int .u64 b] w (WidePost w (wWide 52 a b)) := by
  have N1 := fun W => Lib.hid (ref_negative W a)
  have N2 := fun W => Lib.hid (ref_negative W b)
  obtain ⟨na, hna⟩ : ∃ na, na = decide (9223372036854775808 ≤ a) := ⟨_, rfl⟩
  obtain ⟨nb, hnb⟩ : ∃ nb, nb = decide (9223372036854775808 ≤ b) := ⟨_, rfl⟩
  rw [← hna] at N1
  rw [← hnb] at N2
  have M1 := Lib.hid N1; have M2 := Lib.hid N2
  have FS : (b : Int) % 64 = ((b % 64 : Nat) : Int) := by simp
  have hs : b % 64 < 64 := Nat.mod_lt _ (by omega)
  have FW : IntKind.i64.wrap ((b % 64 : Nat) : Int) = ((b % 64 : Nat) : Int) := by simp [IntKind.wrap, IntKind.bits, IntKind.signed]; omega
  clear N1 N2
  have P := Lib.hid (ref_high w a b ha hb)
  have qlt : a * b / 18446744073709551616 < 18446744073709551616 := by
    apply Nat.div_lt_of_lt_mul
    exact Nat.mul_lt_mul'' ha hb
  have F0 : na = false → ((a * b / 18446744073709551616 : Nat) : Int) = ((wWide 52 a b : Nat) : Int) := by
    intro h1
    show _ = ((un _ : Nat) : Int)
    rw [if_neg (mt (sg_neg_iff a ha).mp (of_decide_eq_false (hna.symm.trans h1))), Int.sub_zero, un_nat _ qlt]
  have F1 : na = true → IntKind.u64.wrap (((a * b / 18446744073709551616 : Nat) : Int) - b) = ((wWide 52 a b : Nat) : Int) := by
    intro h1
    show _ = ((un _ : Nat) : Int)
    rw [if_pos ((sg_neg_iff a ha).mpr (of_decide_eq_true (hna.symm.trans h1))), u64_un]
  have HF := Lib.hid (And.intro F0 F1)
  clear F0 F1 qlt
  generalize a * b / 18446744073709551616 = q at *
  generalize wWide 52 a b = g at *
  clear hna hnb
  generalize b % 64 = s at *
  clear ha hb
  cases na
  · have F := Lib.hid (HF.out.1 rfl)
    clear HF
    go_enter Try.func29, Try.ntmps29
    go_wp2_with fail
    refine (M1.out _).out.mono ?_
    rintro e w' ⟨rfl, rfl⟩
    go_wp2_with fail
    refine (M2.out _).out.mono ?_
    rintro e w' ⟨rfl, rfl⟩
    go_wp2_with fail
    refine P.out.mono ?_
    rintro e w' ⟨rfl, rfl⟩
    go_wp2_with fail
    go_ret
    exact wide_mk0 F.out
  · have F := Lib.hid (HF.out.2 rfl)
    clear HF
    go_enter Try.func29, Try.ntmps29
    go_wp2_with fail
    refine (M1.out _).out.mono ?_
    rintro e w' ⟨rfl, rfl⟩
    go_wp2_with fail
    refine (M2.out _).out.mono ?_
    rintro e w' ⟨rfl, rfl⟩
    go_wp2_with fail
    refine P.out.mono ?_
    rintro e w' ⟨rfl, rfl⟩
    go_wp2_with fail
    go_ret
    exact wide_mk0 F.out

set_option maxRecDepth 100000 in
set_option maxHeartbeats 800000 in
theorem rwide_54 (w : World) (a b : Nat) (ha : a < 18446744073709551616) (hb : b < 18446744073709551616) :
    Calls Try.prog 29 #[.int .i64 54, .int .u64 a, .int .u64 b] w (WidePost w (wWide 54 a b)) := by
  have N1 := fun W => Lib.hid (ref_negative W a)
  have N2 := fun W => Lib.hid (ref_negative W b)
  obtain ⟨na, hna⟩ : ∃ na, na = decide (9223372036854775808 ≤ a) := ⟨_, rfl⟩
  obtain ⟨nb, hnb⟩ : ∃ nb, nb = decide (9223372036854775808 ≤ b) := ⟨_, rfl⟩
  rw [← hna] at N1
  rw [← hnb] at N2
  have M1 := Lib.hid N1; have M2 := Lib.hid N2
  have FS : (b : Int) % 64 = ((b % 64 : Nat) : Int) := by simp
  have hs : b % 64 < 64 := Nat.mod_lt _ (by omega)
  have FW : IntKind.i64.wrap ((b % 64 : Nat) : Int) = ((b % 64 : Nat) : Int) := by simp [IntKind.wrap, IntKind.bits, IntKind.signed]; omega
  clear N1 N2
  have P := Lib.hid (ref_signed' w a b ha hb)
  have F := Lib.hid (show ((un (wDiv a b) : Nat) : Int) = ((wWide 54 a b : Nat) : Int) from rfl)
  generalize wWide 54 a b = g at *
  generalize un (wDiv a b) = q at *
  generalize un (wRem a b) = r at *
  clear hna hnb
  generalize b % 64 = s at *
  clear ha hb
  go_enter Try.func29, Try.ntmps29
  go_wp2_with fail
  refine (M1.out _).out.mono ?_
  rintro e w' ⟨rfl, rfl⟩
  go_wp2_with fail
  refine (M2.out _).out.mono ?_
  rintro e w' ⟨rfl, rfl⟩
  go_wp2_with fail
  refine P.out.mono ?_
  rintro e w' ⟨rfl, rfl⟩
  go_wp2_with fail
  go_ret
  exact wide_mk0 F.out

set_option maxRecDepth 100000 in
set_option maxHeartbeats 800000 in
theorem rwide_56 (w : World) (a b : Nat) (ha : a < 18446744073709551616) (hb : b < 18446744073709551616) :
    Calls Try.prog 29 #[.int .i64 56, .int .u64 a, .int .u64 b] w (WidePost w (wWide 56 a b)) := by
  have N1 := fun W => Lib.hid (ref_negative W a)
  have N2 := fun W => Lib.hid (ref_negative W b)
  obtain ⟨na, hna⟩ : ∃ na, na = decide (9223372036854775808 ≤ a) := ⟨_, rfl⟩
  obtain ⟨nb, hnb⟩ : ∃ nb, nb = decide (9223372036854775808 ≤ b) := ⟨_, rfl⟩
  rw [← hna] at N1
  rw [← hnb] at N2
  have M1 := Lib.hid N1; have M2 := Lib.hid N2
  have FS : (b : Int) % 64 = ((b % 64 : Nat) : Int) := by simp
  have hs : b % 64 < 64 := Nat.mod_lt _ (by omega)
  have FW : IntKind.i64.wrap ((b % 64 : Nat) : Int) = ((b % 64 : Nat) : Int) := by simp [IntKind.wrap, IntKind.bits, IntKind.signed]; omega
  clear N1 N2
  have P := Lib.hid (ref_signed' w a b ha hb)
  have F := Lib.hid (show ((un (wRem a b) : Nat) : Int) = ((wWide 56 a b : Nat) : Int) from rfl)
  generalize wWide 56 a b = g at *
  generalize un (wDiv a b) = q at *
  generalize un (wRem a b) = r at *
  clear hna hnb
  generalize b % 64 = s at *
  clear ha hb
  go_enter Try.func29, Try.ntmps29
  go_wp2_with fail
  refine (M1.out _).out.mono ?_
  rintro e w' ⟨rfl, rfl⟩
  go_wp2_with fail
  refine (M2.out _).out.mono ?_
  rintro e w' ⟨rfl, rfl⟩
  go_wp2_with fail
  refine P.out.mono ?_
  rintro e w' ⟨rfl, rfl⟩
  go_wp2_with fail
  go_ret
  exact wide_mk0 F.out

set_option maxRecDepth 100000 in
set_option maxHeartbeats 800000 in
theorem rwide_55 (w : World) (a b : Nat) (ha : a < 18446744073709551616) (hb : b < 18446744073709551616) :
    Calls Try.prog 29 #[.int .i64 55, .int .u64 a, .int .u64 b] w (WidePost w (wWide 55 a b)) := by
  have N1 := fun W => Lib.hid (ref_negative W a)
  have N2 := fun W => Lib.hid (ref_negative W b)
  obtain ⟨na, hna⟩ : ∃ na, na = decide (9223372036854775808 ≤ a) := ⟨_, rfl⟩
  obtain ⟨nb, hnb⟩ : ∃ nb, nb = decide (9223372036854775808 ≤ b) := ⟨_, rfl⟩
  rw [← hna] at N1
  rw [← hnb] at N2
  have M1 := Lib.hid N1; have M2 := Lib.hid N2
  have FS : (b : Int) % 64 = ((b % 64 : Nat) : Int) := by simp
  have hs : b % 64 < 64 := Nat.mod_lt _ (by omega)
  have FW : IntKind.i64.wrap ((b % 64 : Nat) : Int) = ((b % 64 : Nat) : Int) := by simp [IntKind.wrap, IntKind.bits, IntKind.signed]; omega
  clear N1 N2
  have P := Lib.hid (ref_signed' w a b ha hb)
  generalize un (wDiv a b) = q at *
  generalize un (wRem a b) = r at *
  by_cases h0 : b = 0
  · subst h0
    have F := Lib.hid (show 18446744073709551615 = ((wWide 55 a 0 : Nat) : Int) from by simp [wWide])
    generalize wWide 55 a 0 = g at *
    clear FS FW hs ha hb hna hnb
    go_enter Try.func29, Try.ntmps29
    go_wp2_with fail
    refine (M1.out _).out.mono ?_
    rintro e w' ⟨rfl, rfl⟩
    go_wp2_with fail
    refine (M2.out _).out.mono ?_
    rintro e w' ⟨rfl, rfl⟩
    go_wp2_with fail
    refine P.out.mono ?_
    rintro e w' ⟨rfl, rfl⟩
    go_wp2_with fail
    go_ret
    exact wide_mk0 F.out
  · have F := Lib.hid (show ((a / b : Nat) : Int) = ((wWide 55 a b : Nat) : Int) from by simp [wWide, h0])
    have b0 : ((b : Int) == 0) = false := nat_mod_ne (by omega)
    have b1 : ¬ (b : Int) = 0 := by omega
    have D1 : (a : Int) / (b : Int) = ((a / b : Nat) : Int) := by simp
    have D2 : (a : Int) % (b : Int) = ((a % b : Nat) : Int) := by simp
    have W1 := u64_wrap_lt (a / b) (Nat.lt_of_le_of_lt (Nat.div_le_self _ _) ha)
    generalize wWide 55 a b = g at *
    generalize a / b = dq at *
    generalize a % b = dr at *
    clear hna hnb
    generalize b % 64 = s at *
    clear ha hb
    go_enter Try.func29, Try.ntmps29
    go_wp2_with fail
    refine (M1.out _).out.mono ?_
    rintro e w' ⟨rfl, rfl⟩
    go_wp2_with fail
    refine (M2.out _).out.mono ?_
    rintro e w' ⟨rfl, rfl⟩
    go_wp2_with fail
    refine P.out.mono ?_
    rintro e w' ⟨rfl, rfl⟩
    go_wp2_with fail
    go_ret
    exact wide_mk0 F.out

set_option maxRecDepth 100000 in
set_option maxHeartbeats 800000 in
theorem rwide_57 (w : World) (a b : Nat) (ha : a < 18446744073709551616) (hb : b < 18446744073709551616) :
    Calls Try.prog 29 #[.int .i64 57, .int .u64 a, .int .u64 b] w (WidePost w (wWide 57 a b)) := by
  have N1 := fun W => Lib.hid (ref_negative W a)
  have N2 := fun W => Lib.hid (ref_negative W b)
  obtain ⟨na, hna⟩ : ∃ na, na = decide (9223372036854775808 ≤ a) := ⟨_, rfl⟩
  obtain ⟨nb, hnb⟩ : ∃ nb, nb = decide (9223372036854775808 ≤ b) := ⟨_, rfl⟩
  rw [← hna] at N1
  rw [← hnb] at N2
  have M1 := Lib.hid N1; have M2 := Lib.hid N2
  have FS : (b : Int) % 64 = ((b % 64 : Nat) : Int) := by simp
  have hs : b % 64 < 64 := Nat.mod_lt _ (by omega)
  have FW : IntKind.i64.wrap ((b % 64 : Nat) : Int) = ((b % 64 : Nat) : Int) := by simp [IntKind.wrap, IntKind.bits, IntKind.signed]; omega
  clear N1 N2
  have P := Lib.hid (ref_signed' w a b ha hb)
  generalize un (wDiv a b) = q at *
  generalize un (wRem a b) = r at *
  by_cases h0 : b = 0
  · subst h0
    have F := Lib.hid (show (a : Int) = ((wWide 57 a 0 : Nat) : Int) from by simp [wWide])
    generalize wWide 57 a 0 = g at *
    clear FS FW hs ha hb hna hnb
    go_enter Try.func29, Try.ntmps29
    go_wp2_with fail
    refine (M1.out _).out.mono ?_
    rintro e w' ⟨rfl, rfl⟩
    go_wp2_with fail
    refine (M2.out _).out.mono ?_
    rintro e w' ⟨rfl, rfl⟩
    go_wp2_with fail
    refine P.out.mono ?_
    rintro e w' ⟨rfl, rfl⟩
    go_wp2_with fail
    go_ret
    exact wide_mk0 F.out
  · have F := Lib.hid (show ((a % b : Nat) : Int) = ((wWide 57 a b : Nat) : Int) from by simp [wWide, h0])
    have b0 : ((b : Int) == 0) = false := nat_mod_ne (by omega)
    have b1 : ¬ (b : Int) = 0 := by omega
    have D1 : (a : Int) / (b : Int) = ((a / b : Nat) : Int) := by simp
    have D2 : (a : Int) % (b : Int) = ((a % b : Nat) : Int) := by simp
    have W1 := u64_wrap_lt (a / b) (Nat.lt_of_le_of_lt (Nat.div_le_self _ _) ha)
    generalize wWide 57 a b = g at *
    generalize a / b = dq at *
    generalize a % b = dr at *
    clear hna hnb
    generalize b % 64 = s at *
    clear ha hb
    go_enter Try.func29, Try.ntmps29
    go_wp2_with fail
    refine (M1.out _).out.mono ?_
    rintro e w' ⟨rfl, rfl⟩
    go_wp2_with fail
    refine (M2.out _).out.mono ?_
    rintro e w' ⟨rfl, rfl⟩
    go_wp2_with fail
    refine P.out.mono ?_
    rintro e w' ⟨rfl, rfl⟩
    go_wp2_with fail
    go_ret
    exact wide_mk0 (D2.trans F.out)
end Go.Proofs.Ytcpmjgjefhpgkaa
