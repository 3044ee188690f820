/-
  The walk of the statement WordShifts: true, for every input.
-/
import Derived.Test.YtcpmjgjefhpgkaaWdShown
import Derived.Test.YtcpmjgjefhpgkaaWordL
import Derived.Test.YtcpmjgjefhpgkaaWordM
namespace Go.Proofs.Ytcpmjgjefhpgkaa
open Go.RowKit

set_option maxRecDepth 100000 in
set_option maxHeartbeats 800000 in
theorem wordShifts_walk (w : World) (a0 : Int) (w0 : (Lit.int .u64 a0).wf = true) (a1 : Int) (w1 : (Lit.int .i64 a1).wf = true) :
    Calls Try.prog 9 #[.int .u64 a0, .int .i64 a1] w fun e w' => e = .returned (.bool true) ∧ Below w.heap.size w w' := by
  obtain ⟨a, rfl, ha⟩ := u64_nat w0
  clear w0 w1
  by_cases h0 : a1 < 0
  · clear ha
    go_enter Try.func9, Try.ntmps9
    go_wp2_with fail
    refine (wshown _).mono ?_
    rintro e w1 ⟨rfl, hsh⟩
    have H1 := Lib.hid hsh; clear hsh
    go_wp2_with fail
    go_ret
    exact ⟨rfl, H1.out.below (Nat.le_refl _) (fun _ h => h.elim)⟩
  · by_cases h1 : 63 < a1
    · clear ha
      go_enter Try.func9, Try.ntmps9
      go_wp2_with fail
      refine (wshown _).mono ?_
      rintro e w1 ⟨rfl, hsh⟩
      have H1 := Lib.hid hsh; clear hsh
      go_wp2_with fail
      go_ret
      exact ⟨rfl, H1.out.below (Nat.le_refl _) (fun _ h => h.elim)⟩
    · obtain ⟨n, rfl⟩ := Int.eq_ofNat_of_zero_le (show 0 ≤ a1 by omega)
      have hn : n < 64 := by omega
      have K1 := fun W => Lib.hid (word_reckon W 37 a n ha (by omega))
      have K2 := fun W => Lib.hid (word_reckon W 41 (wReckon 37 a n) n (wWide_lt 37 a n ha (by omega)) (by omega))
      have K3 := fun W => Lib.hid (word_reckon W 41 a n ha (by omega))
      have K4 := fun W => Lib.hid (word_reckon W 37 (wReckon 41 a n) n (wWide_lt 41 a n ha (by omega)) (by omega))
      have K5 := fun W => Lib.hid (word_low W a ha n)
      have K6 := fun W => Lib.hid (word_low W a ha (64 - (n : Int)))
      rw [show wOk 37 = true from rfl] at K1 K4
      rw [show wOk 41 = true from rfl, shifts_c a n ha hn] at K2
      rw [show wOk 41 = true from rfl] at K3
      have F := shifts_e a n ha hn
      have hw : IntKind.u64.wrap (n : Int) = (n : Int) := u64_wrap_lt n (by omega)
      generalize wReckon 37 (wReckon 41 a n) n = e at *
      generalize wReckon 37 a n = b at *
      generalize wReckon 41 a n = d at *
      generalize wLow a (n : Int) = l at *
      generalize wLow a (64 - (n : Int)) = c at *
      have C1 := Lib.hid K1; have C2 := Lib.hid K2; have C3 := Lib.hid K3; have C4 := Lib.hid K4; have C5 := Lib.hid K5; have C6 := Lib.hid K6
      have g0 : ¬ (n : Int) < 0 := by omega
      have g1 : ¬ 63 < (n : Int) := by omega
      clear K1 K2 K3 K4 K5 K6 ha h0 h1
      go_enter Try.func9, Try.ntmps9
      go_wp2_with fail
      refine (wshown _).mono ?_
      rintro e w1 ⟨rfl, hsh⟩
      have H1 := Lib.hid hsh; clear hsh
      go_wp2_with fail
      refine (C1.out w1).out.mono ?_
      rintro e w2 ⟨rfl, q2⟩
      have Q2 := Lib.hid q2; clear q2
      go_wp2_with fail
      refine (C2.out w2).out.mono ?_
      rintro e w3 ⟨rfl, q3⟩
      have Q3 := Lib.hid q3; clear q3
      go_wp2_with fail
      refine (C3.out w3).out.mono ?_
      rintro e w4 ⟨rfl, q4⟩
      have Q4 := Lib.hid q4; clear q4
      go_wp2_with fail
      refine (C4.out w4).out.mono ?_
      rintro e w5 ⟨rfl, q5⟩
      have Q5 := Lib.hid q5; clear q5
      go_wp2_with fail
      refine (C5.out w5).out.mono ?_
      rintro e wq ⟨rfl, rfl⟩
      go_wp2_with fail
      refine (C6.out w5).out.mono ?_
      rintro e wq ⟨rfl, rfl⟩
      go_wp2_with fail
      go_ret
      exact ⟨rfl, ((((H1.out.trans (drawn_chg Q2.out)).trans (drawn_chg Q3.out)).trans (drawn_chg Q4.out)).trans (drawn_chg Q5.out)).below (Nat.le_refl _) (fun _ h => h.elim)⟩
end Go.Proofs.Ytcpmjgjefhpgkaa
