/-
  The walk of the statement WordHalves: true, for every input.
-/
import Derived.Test.YtcpmjgjefhpgkaaWdShown
import Derived.Test.YtcpmjgjefhpgkaaWordL
import Derived.Test.YtcpmjgjefhpgkaaWordM
namespace Go.Proofs.Ytcpmjgjefhpgkaa
open Go.RowKit

set_option maxRecDepth 100000 in
set_option maxHeartbeats 1600000 in
theorem wordHalves_walk (w : World) (a0 : Int) (w0 : (Lit.int .u64 a0).wf = true) (a1 : Int) (w1 : (Lit.int .u64 a1).wf = true) :
    Calls Try.prog 7 #[.int .u64 a0, .int .u64 a1] w fun e w' => e = .returned (.bool true) ∧ Below w.heap.size w w' := by
  obtain ⟨a, rfl, ha⟩ := u64_nat w0
  obtain ⟨b, rfl, hb⟩ := u64_nat w1
  have K1 := fun W => Lib.hid (word_reckon W 53 a b ha hb)
  have K2 := fun W => Lib.hid (word_reckon W 53 b a hb ha)
  have K3 := fun W => Lib.hid (word_reckon W 51 a b ha hb)
  have K4 := fun W => Lib.hid (word_reckon W 51 b a hb ha)
  have K5 := fun W => Lib.hid (word_reckon W 52 a b ha hb)
  rw [show wOk 53 = true from rfl] at K1
  rw [show wOk 53 = true from rfl, halves_comm b a] at K2
  rw [show wOk 51 = true from rfl] at K3
  rw [show wOk 51 = true from rfl, halves_comm2 b a] at K4
  rw [show wOk 52 = true from rfl] at K5
  have F3 := halves_s a b
  have F5 := halves_m a b
  have hu : IntKind.u64.wrap (wReckon 53 a b : Int) = (wReckon 53 a b : Int) := u64_wrap_lt _ (wWide_lt 53 a b ha hb)
  have hm : IntKind.u64.wrap (wReckon 52 a b : Int) = (wReckon 52 a b : Int) := u64_wrap_lt _ (wWide_lt 52 a b ha hb)
  have ha2 : (a : Int) ≤ 18446744073709551615 := by omega
  have hb2 : (b : Int) ≤ 18446744073709551615 := by omega
  clear w0 w1
  generalize wReckon 53 a b = u at *
  generalize wReckon 51 a b = s at *
  generalize wReckon 52 a b = m at *
  have C1 := Lib.hid K1; have C2 := Lib.hid K2; have C3 := Lib.hid K3; have C4 := Lib.hid K4; have C5 := Lib.hid K5
  clear K1 K2 K3 K4 K5
  have G3 := Lib.hid F3; have G5 := Lib.hid F5
  clear F3 F5 ha hb
  by_cases h1 : 9223372036854775808 ≤ a
  · have d1 : decide ((9223372036854775808 : Int) ≤ (a : Int)) = true := decide_eq_true (by omega)
    by_cases h2 : 9223372036854775808 ≤ b
    · have d2 : decide ((9223372036854775808 : Int) ≤ (b : Int)) = true := decide_eq_true (by omega)
      have e3 := G3.out
      have e5 := G5.out
      rw [if_pos (by unfold sg; split <;> omega), if_pos (by unfold sg; split <;> omega)] at e3
      rw [if_pos (by unfold sg; split <;> omega)] at e5
      rw [e5] at e3
      clear h1 h2 G3 G5
      go_enter Try.func7, Try.ntmps7
      go_wp2_with fail
      refine (wshown _).mono ?_
      rintro e w1 ⟨rfl, hsh⟩
      have H1 := Lib.hid hsh; clear hsh
      go_wp2_with fail
      refine (C1.out w1).out.mono ?_
      rintro e w2 ⟨rfl, q2⟩
      have Q2 := Lib.hid q2; clear q2
      go_wp2_with fail
      refine (C2.out w2).out.mono ?_
      rintro e w3 ⟨rfl, q3⟩
      have Q3 := Lib.hid q3; clear q3
      go_wp2_with fail
      refine (C3.out w3).out.mono ?_
      rintro e w4 ⟨rfl, q4⟩
      have Q4 := Lib.hid q4; clear q4
      go_wp2_with fail
      refine (C4.out w4).out.mono ?_
      rintro e w5 ⟨rfl, q5⟩
      have Q5 := Lib.hid q5; clear q5
      go_wp2_with fail
      refine (C5.out w5).out.mono ?_
      rintro e w6 ⟨rfl, q6⟩
      have Q6 := Lib.hid q6; clear q6
      go_wp2_with fail
      go_ret
      exact ⟨rfl, (((((H1.out.trans (drawn_chg Q2.out)).trans (drawn_chg Q3.out)).trans (drawn_chg Q4.out)).trans (drawn_chg Q5.out)).trans (drawn_chg Q6.out)).below (Nat.le_refl _) (fun _ h => h.elim)⟩
    · have d2 : decide ((9223372036854775808 : Int) ≤ (b : Int)) = false := decide_eq_false (by omega)
      have e3 := G3.out
      have e5 := G5.out
      rw [if_pos (by unfold sg; split <;> omega), if_neg (by unfold sg; split <;> omega)] at e3
      rw [if_pos (by unfold sg; split <;> omega)] at e5
      rw [e5, Int.sub_zero, hm] at e3
      obtain rfl : s = m := by omega
      clear e3
      clear h1 h2 G3 G5
      go_enter Try.func7, Try.ntmps7
      go_wp2_with fail
      refine (wshown _).mono ?_
      rintro e w1 ⟨rfl, hsh⟩
      have H1 := Lib.hid hsh; clear hsh
      go_wp2_with fail
      refine (C1.out w1).out.mono ?_
      rintro e w2 ⟨rfl, q2⟩
      have Q2 := Lib.hid q2; clear q2
      go_wp2_with fail
      refine (C2.out w2).out.mono ?_
      rintro e w3 ⟨rfl, q3⟩
      have Q3 := Lib.hid q3; clear q3
      go_wp2_with fail
      refine (C3.out w3).out.mono ?_
      rintro e w4 ⟨rfl, q4⟩
      have Q4 := Lib.hid q4; clear q4
      go_wp2_with fail
      refine (C4.out w4).out.mono ?_
      rintro e w5 ⟨rfl, q5⟩
      have Q5 := Lib.hid q5; clear q5
      go_wp2_with fail
      refine (C5.out w5).out.mono ?_
      rintro e w6 ⟨rfl, q6⟩
      have Q6 := Lib.hid q6; clear q6
      go_wp2_with fail
      go_ret
      exact ⟨rfl, (((((H1.out.trans (drawn_chg Q2.out)).trans (drawn_chg Q3.out)).trans (drawn_chg Q4.out)).trans (drawn_chg Q5.out)).trans (drawn_chg Q6.out)).below (Nat.le_refl _) (fun _ h => h.elim)⟩
  · have d1 : decide ((9223372036854775808 : Int) ≤ (a : Int)) = false := decide_eq_false (by omega)
    by_cases h2 : 9223372036854775808 ≤ b
    · have d2 : decide ((9223372036854775808 : Int) ≤ (b : Int)) = true := decide_eq_true (by omega)
      have e3 := G3.out
      have e5 := G5.out
      rw [if_neg (by unfold sg; split <;> omega), if_pos (by unfold sg; split <;> omega)] at e3
      rw [if_neg (by unfold sg; split <;> omega)] at e5
      rw [Int.sub_zero, hu] at e3
      rw [Int.sub_zero, hu] at e5
      obtain rfl : m = u := by omega
      clear e5 hm
      clear h1 h2 G3 G5
      go_enter Try.func7, Try.ntmps7
      go_wp2_with fail
      refine (wshown _).mono ?_
      rintro e w1 ⟨rfl, hsh⟩
      have H1 := Lib.hid hsh; clear hsh
      go_wp2_with fail
      refine (C1.out w1).out.mono ?_
      rintro e w2 ⟨rfl, q2⟩
      have Q2 := Lib.hid q2; clear q2
      go_wp2_with fail
      refine (C2.out w2).out.mono ?_
      rintro e w3 ⟨rfl, q3⟩
      have Q3 := Lib.hid q3; clear q3
      go_wp2_with fail
      refine (C3.out w3).out.mono ?_
      rintro e w4 ⟨rfl, q4⟩
      have Q4 := Lib.hid q4; clear q4
      go_wp2_with fail
      refine (C4.out w4).out.mono ?_
      rintro e w5 ⟨rfl, q5⟩
      have Q5 := Lib.hid q5; clear q5
      go_wp2_with fail
      refine (C5.out w5).out.mono ?_
      rintro e w6 ⟨rfl, q6⟩
      have Q6 := Lib.hid q6; clear q6
      go_wp2_with fail
      go_ret
      exact ⟨rfl, (((((H1.out.trans (drawn_chg Q2.out)).trans (drawn_chg Q3.out)).trans (drawn_chg Q4.out)).trans (drawn_chg Q5.out)).trans (drawn_chg Q6.out)).below (Nat.le_refl _) (fun _ h => h.elim)⟩
    · have d2 : decide ((9223372036854775808 : Int) ≤ (b : Int)) = false := decide_eq_false (by omega)
      have e3 := G3.out
      have e5 := G5.out
      rw [if_neg (by unfold sg; split <;> omega), if_neg (by unfold sg; split <;> omega)] at e3
      rw [if_neg (by unfold sg; split <;> omega)] at e5
      rw [Int.sub_zero, Int.sub_zero, hu, hu] at e3
      rw [Int.sub_zero, hu] at e5
      obtain rfl : m = u := by omega
      obtain rfl : s = m := by omega
      clear e5 e3 hm
      clear h1 h2 G3 G5
      go_enter Try.func7, Try.ntmps7
      go_wp2_with fail
      refine (wshown _).mono ?_
      rintro e w1 ⟨rfl, hsh⟩
      have H1 := Lib.hid hsh; clear hsh
      go_wp2_with fail
      refine (C1.out w1).out.mono ?_
      rintro e w2 ⟨rfl, q2⟩
      have Q2 := Lib.hid q2; clear q2
      go_wp2_with fail
      refine (C2.out w2).out.mono ?_
      rintro e w3 ⟨rfl, q3⟩
      have Q3 := Lib.hid q3; clear q3
      go_wp2_with fail
      refine (C3.out w3).out.mono ?_
      rintro e w4 ⟨rfl, q4⟩
      have Q4 := Lib.hid q4; clear q4
      go_wp2_with fail
      refine (C4.out w4).out.mono ?_
      rintro e w5 ⟨rfl, q5⟩
      have Q5 := Lib.hid q5; clear q5
      go_wp2_with fail
      refine (C5.out w5).out.mono ?_
      rintro e w6 ⟨rfl, q6⟩
      have Q6 := Lib.hid q6; clear q6
      go_wp2_with fail
      go_ret
      exact ⟨rfl, (((((H1.out.trans (drawn_chg Q2.out)).trans (drawn_chg Q3.out)).trans (drawn_chg Q4.out)).trans (drawn_chg Q5.out)).trans (drawn_chg Q6.out)).below (Nat.le_refl _) (fun _ h => h.elim)⟩
end Go.Proofs.Ytcpmjgjefhpgkaa
