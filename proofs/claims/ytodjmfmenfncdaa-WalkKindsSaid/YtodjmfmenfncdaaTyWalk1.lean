/-
  Parts of an address, an entry's frame, the bit that an access needs: by their contracts.
-/
import Derived.Test.YtodjmfmenfncdaaTyLaw
namespace Go.Proofs.Ytodjmfmenfncdaa
open Go.RowKit

theorem i64_and_nat (a b : Nat) (ha : a < 9223372036854775808) (hb : b < 9223372036854775808) : bits .and .i64 (a : Int) (b : Int) = ((a &&& b : Nat) : Int) := by
  have h : (BitVec.ofInt 64 (a : Int) &&& BitVec.ofInt 64 (b : Int)).toNat = a &&& b := by
    rw [BitVec.toNat_and, ofInt_u64 a (by omega), ofInt_u64 b (by omega)]
  have hle : (a &&& b) ≤ a := Nat.and_le_left
  show IntKind.i64.wrap (((BitVec.ofInt 64 (a : Int) &&& BitVec.ofInt 64 (b : Int)).toNat : Nat) : Int) = _
  rw [h]
  generalize a &&& b = c at *
  simp [IntKind.wrap, IntKind.bits, IntKind.signed]
  omega

/-- the part of an address at a level -/
def tbPart (at_ : Nat) (l : Nat) : Nat := if at_ < 8388608 then at_ / 2 ^ (8 + 5 * l) % 32 else 0
theorem tbPart_lt (at_ l : Nat) : tbPart at_ l < 32 := by
  unfold tbPart
  split
  · exact Nat.mod_lt _ (by decide)
  · omega

theorem tb_part_out (w : World) (at_ : Nat) (h : 8388608 ≤ at_) (l : Int) (hl : 0 ≤ l ∧ l < 3) :
    Calls Try.prog 15 #[.int .u64 at_, .int .i64 l] w fun e w' => e = .returned (.int .i64 0) ∧ w = w' := by
  have d1 : decide (l < (0 : Int)) = false := decide_eq_false (by omega)
  have d2 : decide ((3 : Int) ≤ l) = false := decide_eq_false (by omega)
  have d3 : decide ((8388608 : Int) ≤ (at_ : Int)) = true := decide_eq_true (by omega)
  go_enter Try.func15, Try.ntmps15
  go_wp2_with fail
  go_ret
  exact ⟨rfl, rfl⟩
theorem tb_part0 (w : World) (at_ : Nat) (h : at_ < 8388608) :
    Calls Try.prog 15 #[.int .u64 at_, .int .i64 0] w fun e w' => e = .returned (.int .i64 (at_ / 256 % 32 : Nat)) ∧ w = w' := by
  have d3 : decide ((8388608 : Int) ≤ (at_ : Int)) = false := decide_eq_false (by omega)
  have d4 : ¬ 8388608 ≤ at_ := by omega
  have q1 : wrap64 ((at_ : Int) / 256) = (at_ : Int) / 256 := by unfold wrap64; omega
  have q2 : bits BinOp.and IntKind.i64 ((at_ : Int) / 256) 31 = ((at_ / 256 % 32 : Nat) : Int) := by
    have h1 := i64_and_nat (at_ / 256) 31 (by omega) (by omega)
    rw [nat_mask5] at h1
    exact h1
  generalize at_ / 256 % 32 = k at *
  go_enter Try.func15, Try.ntmps15
  go_wp2_with fail
  go_ret
  exact ⟨rfl, rfl⟩
theorem tb_part1 (w : World) (at_ : Nat) (h : at_ < 8388608) :
    Calls Try.prog 15 #[.int .u64 at_, .int .i64 1] w fun e w' => e = .returned (.int .i64 (at_ / 8192 % 32 : Nat)) ∧ w = w' := by
  have d3 : decide ((8388608 : Int) ≤ (at_ : Int)) = false := decide_eq_false (by omega)
  have d4 : ¬ 8388608 ≤ at_ := by omega
  have q1 : wrap64 ((at_ : Int) / 8192) = (at_ : Int) / 8192 := by unfold wrap64; omega
  have q2 : bits BinOp.and IntKind.i64 ((at_ : Int) / 8192) 31 = ((at_ / 8192 % 32 : Nat) : Int) := by
    have h1 := i64_and_nat (at_ / 8192) 31 (by omega) (by omega)
    rw [nat_mask5] at h1
    exact h1
  generalize at_ / 8192 % 32 = k at *
  go_enter Try.func15, Try.ntmps15
  go_wp2_with fail
  go_ret
  exact ⟨rfl, rfl⟩
theorem tb_part2 (w : World) (at_ : Nat) (h : at_ < 8388608) :
    Calls Try.prog 15 #[.int .u64 at_, .int .i64 2] w fun e w' => e = .returned (.int .i64 (at_ / 262144 % 32 : Nat)) ∧ w = w' := by
  have d3 : decide ((8388608 : Int) ≤ (at_ : Int)) = false := decide_eq_false (by omega)
  have d4 : ¬ 8388608 ≤ at_ := by omega
  have q1 : wrap64 ((at_ : Int) / 262144) = (at_ : Int) / 262144 := by unfold wrap64; omega
  have q2 : bits BinOp.and IntKind.i64 ((at_ : Int) / 262144) 31 = ((at_ / 262144 % 32 : Nat) : Int) := by
    have h1 := i64_and_nat (at_ / 262144) 31 (by omega) (by omega)
    rw [nat_mask5] at h1
    exact h1
  generalize at_ / 262144 % 32 = k at *
  go_enter Try.func15, Try.ntmps15
  go_wp2_with fail
  go_ret
  exact ⟨rfl, rfl⟩
theorem tb_frame (w : World) (e : Nat) (_he : e < 18446744073709551616) :
    Calls Try.prog 38 #[.int .u64 e] w fun r w' => r = .returned (.int .u64 (e / 1024 : Nat)) ∧ w = w' := by
  go_enter Try.func38, Try.ntmps38
  go_wp2_with fail
  go_ret
  exact ⟨by simp, rfl⟩
theorem tb_needs (w : World) (acc : Nat) (h : 1 ≤ acc ∧ acc ≤ 3) :
    Calls Try.prog 36 #[.int .i64 acc] w fun r w' => r = .returned (.int .u64 (2 ^ acc : Nat)) ∧ w = w' := by
  rcases (show acc = 1 ∨ acc = 2 ∨ acc = 3 by omega) with rfl | rfl | rfl
  all_goals
    go_enter Try.func36, Try.ntmps36
    go_wp2_with fail
    go_ret
    exact ⟨rfl, rfl⟩
theorem tb_needs_no (w : World) (acc : Int) (h : acc ≠ 1 ∧ acc ≠ 2 ∧ acc ≠ 3) :
    Calls Try.prog 36 #[.int .i64 acc] w fun r w' => r = .returned (.int .u64 0) ∧ w = w' := by
  have q1 : (acc == 1) = false := by simpa using h.1
  have q2 : (acc == 2) = false := by simpa using h.2.1
  have q3 : (acc == 3) = false := by simpa using h.2.2
  go_enter Try.func36, Try.ntmps36
  go_wp2_with fail
  go_ret
  exact ⟨rfl, rfl⟩
end Go.Proofs.Ytodjmfmenfncdaa
