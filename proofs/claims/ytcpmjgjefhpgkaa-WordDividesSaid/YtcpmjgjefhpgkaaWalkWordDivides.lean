/-
  The walk of the statement WordDivides: true, for every input.
-/
import Derived.Test.YtcpmjgjefhpgkaaWdShown
import Derived.Test.YtcpmjgjefhpgkaaWordL
import Derived.Test.YtcpmjgjefhpgkaaWordM
namespace Go.Proofs.Ytcpmjgjefhpgkaa
open Go.RowKit

set_option maxRecDepth 100000 in
set_option maxHeartbeats 800000 in
theorem wordDivides_walk (w : World) (a0 : Int) (w0 : (Lit.int .u64 a0).wf = true) (a1 : Int) (w1 : (Lit.int .u64 a1).wf = true) :
    Calls Try.prog 6 #[.int .u64 a0, .int .u64 a1] w fun e w' => e = .returned (.bool true) ∧ Below w.heap.size w w' := by
  obtain ⟨a, rfl, ha⟩ := u64_nat w0
  obtain ⟨b, rfl, hb⟩ := u64_nat w1
  have K1 := fun W => Lib.hid (word_reckon W 54 a b ha hb)
  have K2 := fun W => Lib.hid (word_reckon W 56 a b ha hb)
  have K3 := fun W => Lib.hid (word_reckon W 55 a b ha hb)
  have K4 := fun W => Lib.hid (word_reckon W 57 a b ha hb)
  rw [show wOk 54 = true from rfl] at K1
  rw [show wOk 56 = true from rfl] at K2
  rw [show wOk 55 = true from rfl] at K3
  rw [show wOk 57 = true from rfl] at K4
  clear w0 w1
  by_cases h0 : b = 0
  · subst h0
    have e1 : wReckon 54 a 0 = 18446744073709551615 := div0_q a
    have e2 : wReckon 56 a 0 = a := div0_r a ha
    have e3 : wReckon 55 a 0 = 18446744073709551615 := div0_p a
    have e4 : wReckon 57 a 0 = a := div0_s a
    rw [e1] at K1
    rw [e2] at K2
    rw [e3] at K3
    rw [e4] at K4
    have C1 := Lib.hid K1; have C2 := Lib.hid K2; have C3 := Lib.hid K3; have C4 := Lib.hid K4
    clear K1 K2 K3 K4 e1 e2 e3 e4 ha hb
    go_enter Try.func6, Try.ntmps6
    go_wp2_with fail
    refine (wshown _).mono ?_
    rintro e w1 ⟨rfl, hsh⟩
    have H1 := Lib.hid hsh; clear hsh
    go_wp2_with fail
    refine (C1.out w1).out.mono ?_
    rintro e w2 ⟨rfl, q2⟩
    have Q2 := Lib.hid q2; clear q2
    go_wp2_with fail
    refine (C2.out w2).out.mono ?_
    rintro e w3 ⟨rfl, q3⟩
    have Q3 := Lib.hid q3; clear q3
    go_wp2_with fail
    refine (C3.out w3).out.mono ?_
    rintro e w4 ⟨rfl, q4⟩
    have Q4 := Lib.hid q4; clear q4
    go_wp2_with fail
    refine (C4.out w4).out.mono ?_
    rintro e w5 ⟨rfl, q5⟩
    have Q5 := Lib.hid q5; clear q5
    go_wp2_with fail
    go_ret
    exact ⟨rfl, ((((H1.out.trans (drawn_chg Q2.out)).trans (drawn_chg Q3.out)).trans (drawn_chg Q4.out)).trans (drawn_chg Q5.out)).below (Nat.le_refl _) (fun _ h => h.elim)⟩
  · have F1 := divides_q a b ha hb h0
    have F2 := divides_p a b ha hb h0
    have F3 := divides_s a b h0
    have F4 : decide ((wReckon 57 a b : Int) < (b : Int)) = true := by simpa using F3
    have F5 : decide (wReckon 57 a b < b) = true := by simpa using F3
    have C1 := Lib.hid K1; have C2 := Lib.hid K2; have C3 := Lib.hid K3; have C4 := Lib.hid K4
    have b0 : ¬ (b : Int) = 0 := by omega
    generalize wReckon 54 a b = q at *
    generalize wReckon 56 a b = r at *
    generalize wReckon 55 a b = p at *
    generalize wReckon 57 a b = s at *
    clear K1 K2 K3 K4 ha hb F3
    go_enter Try.func6, Try.ntmps6
    go_wp2_with fail
    refine (wshown _).mono ?_
    rintro e w1 ⟨rfl, hsh⟩
    have H1 := Lib.hid hsh; clear hsh
    go_wp2_with fail
    refine (C1.out w1).out.mono ?_
    rintro e w2 ⟨rfl, q2⟩
    have Q2 := Lib.hid q2; clear q2
    go_wp2_with fail
    refine (C2.out w2).out.mono ?_
    rintro e w3 ⟨rfl, q3⟩
    have Q3 := Lib.hid q3; clear q3
    go_wp2_with fail
    refine (C3.out w3).out.mono ?_
    rintro e w4 ⟨rfl, q4⟩
    have Q4 := Lib.hid q4; clear q4
    go_wp2_with fail
    refine (C4.out w4).out.mono ?_
    rintro e w5 ⟨rfl, q5⟩
    have Q5 := Lib.hid q5; clear q5
    go_wp2_with fail
    go_ret
    exact ⟨rfl, ((((H1.out.trans (drawn_chg Q2.out)).trans (drawn_chg Q3.out)).trans (drawn_chg Q4.out)).trans (drawn_chg Q5.out)).below (Nat.le_refl _) (fun _ h => h.elim)⟩
end Go.Proofs.Ytcpmjgjefhpgkaa
