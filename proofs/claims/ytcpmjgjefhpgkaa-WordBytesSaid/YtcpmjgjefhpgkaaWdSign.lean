/-
  word.Sign and word.Low by their contracts.
-/
import Derived.Test.YtcpmjgjefhpgkaaWd
import Derived.Test.YtcpmjgjefhpgkaaWordP
namespace Go.Proofs.Ytcpmjgjefhpgkaa
open Go.RowKit

theorem word_sign (w : World) (v : Nat) (n : Int) :
    Calls Try.prog 14 #[.int .u64 v, .int .i64 n] w fun e w' => e = .returned (.int .u64 (wSign v n : Nat)) ∧ w = w' := by
  by_cases h0 : n ≤ 0
  · have e : wSign v n = 0 := by simp [wSign, h0]
    rw [e]
    clear e
    go_enter Try.func14, Try.ntmps14
    go_wp2_with fail
    go_ret
    exact ⟨rfl, rfl⟩
  · by_cases h1 : 64 ≤ n
    · have e : wSign v n = v := by simp [wSign, h0, h1]
      rw [e]
      clear e
      go_enter Try.func14, Try.ntmps14
      go_wp2_with fail
      go_ret
      exact ⟨rfl, rfl⟩
    · obtain ⟨m, rfl⟩ := Int.eq_ofNat_of_zero_le (show 0 ≤ n by omega)
      have F := Lib.hid (sign_form v m (by omega) (by omega))
      have g0 : 0 < m := by omega
      have g1 : m < 64 := by omega
      clear h0 h1
      go_enter Try.func14, Try.ntmps14
      go_wp2_with fail
      go_ret
      exact ⟨ret_int F.out, rfl⟩

theorem word_low (w : World) (v : Nat) (hv : v < 18446744073709551616) (n : Int) :
    Calls Try.prog 16 #[.int .u64 v, .int .i64 n] w fun e w' => e = .returned (.int .u64 (wLow v n : Nat)) ∧ w = w' := by
  by_cases h0 : n ≤ 0
  · have e : wLow v n = 0 := by simp [wLow, h0]
    rw [e]
    clear hv e
    go_enter Try.func16, Try.ntmps16
    go_wp2_with fail
    go_ret
    exact ⟨rfl, rfl⟩
  · by_cases h1 : 64 ≤ n
    · have e : wLow v n = v := by simp [wLow, h0, h1]
      rw [e]
      clear hv e
      go_enter Try.func16, Try.ntmps16
      go_wp2_with fail
      go_ret
      exact ⟨rfl, rfl⟩
    · obtain ⟨m, rfl⟩ := Int.eq_ofNat_of_zero_le (show 0 ≤ n by omega)
      have F := Lib.hid (low_form v m hv (by omega) (by omega))
      have g0 : 0 < m := by omega
      have g1 : m < 64 := by omega
      clear h0 h1 hv
      go_enter Try.func16, Try.ntmps16
      go_wp2_with fail
      go_ret
      exact ⟨ret_int F.out, rfl⟩
end Go.Proofs.Ytcpmjgjefhpgkaa
