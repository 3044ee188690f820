/-
  The statements of layer 1: the document's examples hold.
-/
import Derived.Test.YtcpmjgjefhpgkaaWdAmo
import Derived.Test.YtcpmjgjefhpgkaaWdOf
namespace Go.Proofs.Ytcpmjgjefhpgkaa
open Go.RowKit

theorem sh_1 : wSign 255 8 = 18446744073709551615 := by decide
theorem sh_2 : wReckon 54 7 0 = 18446744073709551615 := by decide
theorem sh_3 : wReckon 53 18446744073709551615 18446744073709551615 = 18446744073709551614 := by decide
theorem sh_4 : wOk 22 = false := by decide
theorem sh_5 : wOk 54 = true := by decide
theorem sh_6 : wOk 53 = true := by decide
theorem sh_7 : wAmoR 75 18446744073709551615 5 = 5 := by decide
theorem sh_8 : wAmoOk 75 = true := by decide
theorem sh_9 : wBytes 258 2 = ⟨#[2, 1]⟩ := by decide

set_option maxRecDepth 100000 in
set_option maxHeartbeats 800000 in
theorem wshown (w : World) :
    Calls Try.prog 13 #[] w fun e w' => e = .returned (.bool true) ∧ Chg (fun _ => False) w w' := by
  go_enter Try.func13, Try.ntmps13
  go_wp2_with fail
  have k1 := word_sign w 255 8
  rw [sh_1] at k1
  refine k1.mono ?_
  clear k1
  rintro e w' ⟨rfl, rfl⟩
  go_wp2_with fail
  have k2 := word_reckon w 54 7 0 (by omega) (by omega)
  rw [sh_2, sh_5] at k2
  refine k2.mono ?_
  clear k2
  rintro e w2 ⟨rfl, q2⟩
  have Q2 := Lib.hid q2; clear q2
  go_wp2_with fail
  have k3 := word_reckon w2 53 18446744073709551615 18446744073709551615 (by omega) (by omega)
  rw [sh_3, sh_6] at k3
  refine k3.mono ?_
  clear k3
  rintro e w3 ⟨rfl, q3⟩
  have Q3 := Lib.hid q3; clear q3
  go_wp2_with fail
  have k4 := word_reckon w3 22 1 1 (by omega) (by omega)
  rw [sh_4] at k4
  refine k4.mono ?_
  clear k4
  rintro e w4 ⟨rfl, q4⟩
  have Q4 := Lib.hid q4; clear q4
  go_wp2_with fail
  have k5 := word_amo w4 75 18446744073709551615 5 (by decide) (by omega) (by omega)
  rw [sh_7, sh_8] at k5
  refine k5.mono ?_
  clear k5
  rintro e w5 ⟨rfl, q5⟩
  have Q5 := Lib.hid q5; clear q5
  go_wp2_with fail
  have k6 := word_bytes w5 258 (by omega) 2
  rw [sh_9] at k6
  refine k6.mono ?_
  clear k6
  rintro e w6 ⟨rfl, q6⟩
  have Q6 := Lib.hid q6; clear q6
  go_wp2_with fail
  go_ret
  exact ⟨rfl, ((((drawn_chg Q2.out).trans (drawn_chg Q3.out)).trans (drawn_chg Q4.out)).trans (drawn_chg Q5.out)).trans Q6.out⟩
end Go.Proofs.Ytcpmjgjefhpgkaa
