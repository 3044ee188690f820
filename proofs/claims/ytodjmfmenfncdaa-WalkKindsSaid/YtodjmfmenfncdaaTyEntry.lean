/-
  An entry of a frame and bits, by its contract.
-/
import Derived.Test.YtodjmfmenfncdaaTyWalk2
namespace Go.Proofs.Ytodjmfmenfncdaa
open Go.RowKit

theorem te_entry (w : World) (f b : Nat) (hf : f < 18014398509481984) (hb : b < 18446744073709551616) (x y : Int) (hx : x = (f : Int)) (hy : y = (b : Int)) :
    Calls Try.prog 16 #[.int .i64 x, .int .u64 y] w fun e w' => e = .returned (.int .u64 (f * 1024 + b % 1024 : Nat)) ∧ w = w' := by
  subst hx hy
  have d1 : decide ((f : Int) < (0 : Int)) = false := decide_eq_false (by omega)
  have q0 : IntKind.u64.wrap (f : Int) = (f : Int) := u64_wrap_lt f (by omega)
  have q1 : IntKind.u64.wrap ((f : Int) * 1024) = ((f * 1024 : Nat) : Int) := by rw [u64_wrap]; omega
  have b1 : bits BinOp.and IntKind.u64 (b : Int) 1023 = ((b % 1024 : Nat) : Int) := by
    have h1 := u64_and_nat b 1023 hb (by omega)
    rw [Nat.and_two_pow_sub_one_eq_mod b 10] at h1
    exact h1
  have hz : b % 1024 < 1024 := Nat.mod_lt _ (by decide)
  generalize b % 1024 = z at *
  have b2 : bits BinOp.or IntKind.u64 ((f * 1024 : Nat) : Int) (z : Int) = ((f * 1024 + z : Nat) : Int) := by
    rw [u64_or_nat (f * 1024) z (by omega) (by omega), nat_join 10 (f * 1024) z (Nat.mul_mod_left _ _) hz]
  obtain ⟨g, hg⟩ : ∃ g, g = f * 1024 := ⟨_, rfl⟩
  rw [← hg] at q1 b2 ⊢
  have q2 : (f : Int) * 1024 = (g : Int) := by omega
  have q3 : IntKind.u64.wrap (g : Int) = (g : Int) := u64_wrap_lt g (by omega)
  clear hg hf hb hz
  go_enter Try.func16, Try.ntmps16
  go_wp2_with fail
  go_ret
  exact ⟨by simp, rfl⟩
end Go.Proofs.Ytodjmfmenfncdaa
