/-
  The walk of the statement WordSigns: true, for every input.
-/
import Derived.Test.YtcpmjgjefhpgkaaWdShown
import Derived.Test.YtcpmjgjefhpgkaaWordL
import Derived.Test.YtcpmjgjefhpgkaaWordM
namespace Go.Proofs.Ytcpmjgjefhpgkaa
open Go.RowKit

theorem wordSigns_walk (w : World) (a0 : Int) (w0 : (Lit.int .u64 a0).wf = true) (a1 : Int) (w1 : (Lit.int .i64 a1).wf = true) :
    Calls Try.prog 10 #[.int .u64 a0, .int .i64 a1] w fun e w' => e = .returned (.bool true) ∧ Below w.heap.size w w' := by
  obtain ⟨a, rfl, ha⟩ := u64_nat w0
  have K1 := fun W => Lib.hid (word_sign W a a1)
  have K2 := fun W => Lib.hid (word_sign W (wSign a a1) a1)
  have K3 := fun W => Lib.hid (word_low W (wSign a a1) (wSign_lt a a1 ha) a1)
  have K4 := fun W => Lib.hid (word_low W a ha a1)
  rw [sign_sign] at K2
  rw [low_sign] at K3
  have T : 0 < a1 → a1 < 64 → (wSign a a1 / 2 ^ a1.toNat = 0 ∨ wSign a a1 / 2 ^ a1.toNat = 18446744073709551615 / 2 ^ a1.toNat) := by
    intro h0 h1
    obtain ⟨n, rfl⟩ := Int.eq_ofNat_of_zero_le (show 0 ≤ a1 by omega)
    exact sign_top a n (by omega) (by omega)
  generalize wSign a a1 = s at *
  generalize wLow a a1 = l at *
  have HT := Lib.hid T
  have C1 := Lib.hid K1; have C2 := Lib.hid K2; have C3 := Lib.hid K3; have C4 := Lib.hid K4
  clear K1 K2 K3 K4 T ha w0 w1
  by_cases h0 : a1 ≤ 0
  · clear HT
    go_enter Try.func10, Try.ntmps10
    go_wp2_with fail
    refine (wshown _).mono ?_
    rintro e w1 ⟨rfl, hsh⟩
    have H1 := Lib.hid hsh; clear hsh
    go_wp2_with fail
    refine (C1.out w1).out.mono ?_
    rintro e w2 ⟨rfl, rfl⟩
    go_wp2_with fail
    refine (C2.out w1).out.mono ?_
    rintro e w2 ⟨rfl, rfl⟩
    go_wp2_with fail
    refine (C3.out w1).out.mono ?_
    rintro e w2 ⟨rfl, rfl⟩
    go_wp2_with fail
    refine (C4.out w1).out.mono ?_
    rintro e w2 ⟨rfl, rfl⟩
    go_wp2_with fail
    go_ret
    exact ⟨rfl, H1.out.below (Nat.le_refl _) (fun _ h => h.elim)⟩
  · by_cases h1 : 64 ≤ a1
    · clear HT
      go_enter Try.func10, Try.ntmps10
      go_wp2_with fail
      refine (wshown _).mono ?_
      rintro e w1 ⟨rfl, hsh⟩
      have H1 := Lib.hid hsh; clear hsh
      go_wp2_with fail
      refine (C1.out w1).out.mono ?_
      rintro e w2 ⟨rfl, rfl⟩
      go_wp2_with fail
      refine (C2.out w1).out.mono ?_
      rintro e w2 ⟨rfl, rfl⟩
      go_wp2_with fail
      refine (C3.out w1).out.mono ?_
      rintro e w2 ⟨rfl, rfl⟩
      go_wp2_with fail
      refine (C4.out w1).out.mono ?_
      rintro e w2 ⟨rfl, rfl⟩
      go_wp2_with fail
      go_ret
      exact ⟨rfl, H1.out.below (Nat.le_refl _) (fun _ h => h.elim)⟩
    · have hT := HT.out (by omega) (by omega)
      obtain ⟨n, rfl⟩ := Int.eq_ofNat_of_zero_le (show 0 ≤ a1 by omega)
      rw [Int.toNat_natCast] at hT
      have n0 : ¬ n = 0 := by omega
      have n1 : n < 64 := by omega
      have hT2 : ((s : Int) / 2 ^ n = 0 ∨ (s : Int) / 2 ^ n = 18446744073709551615 / 2 ^ n) := by
        rcases hT with h | h
        · left
          have : ((s / 2 ^ n : Nat) : Int) = 0 := by rw [h]; rfl
          simpa using this
        · right
          have : ((s / 2 ^ n : Nat) : Int) = ((18446744073709551615 / 2 ^ n : Nat) : Int) := by rw [h]
          rw [Int.natCast_ediv, Int.natCast_ediv] at this
          simpa using this
      have HT2 := Lib.hid hT2
      clear HT hT hT2
      go_enter Try.func10, Try.ntmps10
      go_wp2_with fail
      refine (wshown _).mono ?_
      rintro e w1 ⟨rfl, hsh⟩
      have H1 := Lib.hid hsh; clear hsh
      go_wp2_with fail
      refine (C1.out w1).out.mono ?_
      rintro e w2 ⟨rfl, rfl⟩
      go_wp2_with fail
      refine (C2.out w1).out.mono ?_
      rintro e w2 ⟨rfl, rfl⟩
      go_wp2_with fail
      refine (C3.out w1).out.mono ?_
      rintro e w2 ⟨rfl, rfl⟩
      go_wp2_with fail
      refine (C4.out w1).out.mono ?_
      rintro e w2 ⟨rfl, rfl⟩
      go_wp2_with fail
      all_goals
        go_ret
        exact ⟨ret_bool (by first | rfl | (have h := HT2.out; rcases h with h | h <;> simp [h])), H1.out.below (Nat.le_refl _) (fun _ h => h.elim)⟩
end Go.Proofs.Ytcpmjgjefhpgkaa
