/-
  The walk of the statement WordOrder: true, for every input.
-/
import Derived.Test.YtcpmjgjefhpgkaaWdShown
import Derived.Test.YtcpmjgjefhpgkaaWordL
import Derived.Test.YtcpmjgjefhpgkaaWordM
namespace Go.Proofs.Ytcpmjgjefhpgkaa
open Go.RowKit

set_option maxRecDepth 100000 in
set_option maxHeartbeats 800000 in
theorem wordOrder_walk (w : World) (a0 : Int) (w0 : (Lit.int .u64 a0).wf = true) (a1 : Int) (w1 : (Lit.int .u64 a1).wf = true) :
    Calls Try.prog 11 #[.int .u64 a0, .int .u64 a1] w fun e w' => e = .returned (.bool true) ∧ Below w.heap.size w w' := by
  obtain ⟨a, rfl, ha⟩ := u64_nat w0
  obtain ⟨b, rfl, hb⟩ := u64_nat w1
  have K1 := fun W => Lib.hid (word_reckon W 38 a b ha hb)
  have K2 := fun W => Lib.hid (word_reckon W 38 b a hb ha)
  have K3 := fun W => Lib.hid (word_reckon W 39 a b ha hb)
  have K4 := fun W => Lib.hid (word_reckon W 39 b a hb ha)
  have K5 := fun W => Lib.hid (word_reckon W 36 a b ha hb)
  rw [show wOk 38 = true from rfl] at K1 K2
  rw [show wOk 39 = true from rfl] at K3 K4
  rw [show wOk 36 = true from rfl] at K5
  clear w0 w1
  obtain ⟨h1, h2, h3⟩ | ⟨h1, h2⟩ := order_cases a b ha hb
  · obtain ⟨x, y, v, u, e1, e2, e3, e4, s1, s2⟩ := h3
    rw [e1] at K1
    rw [e2] at K2
    rw [e3] at K3
    rw [e4] at K4
    have z1 : ((wReckon 36 a b : Int) == 0) = false := by simpa using h2
    have z2 : ¬ wReckon 36 a b = 0 := h2
    have z3 : ((a : Int) == (b : Int)) = false := by simp; omega
    have z4 : ¬ a = b := h1
    generalize wReckon 36 a b = d at *
    have C1 := Lib.hid K1; have C2 := Lib.hid K2; have C3 := Lib.hid K3; have C4 := Lib.hid K4; have C5 := Lib.hid K5
    clear K1 K2 K3 K4 K5 e1 e2 e3 e4 ha hb h1 h2
    rcases s1 with ⟨rfl, rfl⟩ | ⟨rfl, rfl⟩
    · rcases s2 with ⟨rfl, rfl⟩ | ⟨rfl, rfl⟩
      · go_enter Try.func11, Try.ntmps11
        go_wp2_with fail
        refine (wshown _).mono ?_
        rintro e w1 ⟨rfl, hsh⟩
        have H1 := Lib.hid hsh; clear hsh
        go_wp2_with fail
        refine (C1.out w1).out.mono ?_
        rintro e w2 ⟨rfl, q2⟩
        have Q2 := Lib.hid q2; clear q2
        go_wp2_with fail
        refine (C2.out w2).out.mono ?_
        rintro e w3 ⟨rfl, q3⟩
        have Q3 := Lib.hid q3; clear q3
        go_wp2_with fail
        refine (C3.out w3).out.mono ?_
        rintro e w4 ⟨rfl, q4⟩
        have Q4 := Lib.hid q4; clear q4
        go_wp2_with fail
        refine (C4.out w4).out.mono ?_
        rintro e w5 ⟨rfl, q5⟩
        have Q5 := Lib.hid q5; clear q5
        go_wp2_with fail
        refine (C5.out w5).out.mono ?_
        rintro e w6 ⟨rfl, q6⟩
        have Q6 := Lib.hid q6; clear q6
        go_wp2_with fail
        go_ret
        exact ⟨rfl, (((((H1.out.trans (drawn_chg Q2.out)).trans (drawn_chg Q3.out)).trans (drawn_chg Q4.out)).trans (drawn_chg Q5.out)).trans (drawn_chg Q6.out)).below (Nat.le_refl _) (fun _ h => h.elim)⟩
      · go_enter Try.func11, Try.ntmps11
        go_wp2_with fail
        refine (wshown _).mono ?_
        rintro e w1 ⟨rfl, hsh⟩
        have H1 := Lib.hid hsh; clear hsh
        go_wp2_with fail
        refine (C1.out w1).out.mono ?_
        rintro e w2 ⟨rfl, q2⟩
        have Q2 := Lib.hid q2; clear q2
        go_wp2_with fail
        refine (C2.out w2).out.mono ?_
        rintro e w3 ⟨rfl, q3⟩
        have Q3 := Lib.hid q3; clear q3
        go_wp2_with fail
        refine (C3.out w3).out.mono ?_
        rintro e w4 ⟨rfl, q4⟩
        have Q4 := Lib.hid q4; clear q4
        go_wp2_with fail
        refine (C4.out w4).out.mono ?_
        rintro e w5 ⟨rfl, q5⟩
        have Q5 := Lib.hid q5; clear q5
        go_wp2_with fail
        refine (C5.out w5).out.mono ?_
        rintro e w6 ⟨rfl, q6⟩
        have Q6 := Lib.hid q6; clear q6
        go_wp2_with fail
        go_ret
        exact ⟨rfl, (((((H1.out.trans (drawn_chg Q2.out)).trans (drawn_chg Q3.out)).trans (drawn_chg Q4.out)).trans (drawn_chg Q5.out)).trans (drawn_chg Q6.out)).below (Nat.le_refl _) (fun _ h => h.elim)⟩
    · rcases s2 with ⟨rfl, rfl⟩ | ⟨rfl, rfl⟩
      · go_enter Try.func11, Try.ntmps11
        go_wp2_with fail
        refine (wshown _).mono ?_
        rintro e w1 ⟨rfl, hsh⟩
        have H1 := Lib.hid hsh; clear hsh
        go_wp2_with fail
        refine (C1.out w1).out.mono ?_
        rintro e w2 ⟨rfl, q2⟩
        have Q2 := Lib.hid q2; clear q2
        go_wp2_with fail
        refine (C2.out w2).out.mono ?_
        rintro e w3 ⟨rfl, q3⟩
        have Q3 := Lib.hid q3; clear q3
        go_wp2_with fail
        refine (C3.out w3).out.mono ?_
        rintro e w4 ⟨rfl, q4⟩
        have Q4 := Lib.hid q4; clear q4
        go_wp2_with fail
        refine (C4.out w4).out.mono ?_
        rintro e w5 ⟨rfl, q5⟩
        have Q5 := Lib.hid q5; clear q5
        go_wp2_with fail
        refine (C5.out w5).out.mono ?_
        rintro e w6 ⟨rfl, q6⟩
        have Q6 := Lib.hid q6; clear q6
        go_wp2_with fail
        go_ret
        exact ⟨rfl, (((((H1.out.trans (drawn_chg Q2.out)).trans (drawn_chg Q3.out)).trans (drawn_chg Q4.out)).trans (drawn_chg Q5.out)).trans (drawn_chg Q6.out)).below (Nat.le_refl _) (fun _ h => h.elim)⟩
      · go_enter Try.func11, Try.ntmps11
        go_wp2_with fail
        refine (wshown _).mono ?_
        rintro e w1 ⟨rfl, hsh⟩
        have H1 := Lib.hid hsh; clear hsh
        go_wp2_with fail
        refine (C1.out w1).out.mono ?_
        rintro e w2 ⟨rfl, q2⟩
        have Q2 := Lib.hid q2; clear q2
        go_wp2_with fail
        refine (C2.out w2).out.mono ?_
        rintro e w3 ⟨rfl, q3⟩
        have Q3 := Lib.hid q3; clear q3
        go_wp2_with fail
        refine (C3.out w3).out.mono ?_
        rintro e w4 ⟨rfl, q4⟩
        have Q4 := Lib.hid q4; clear q4
        go_wp2_with fail
        refine (C4.out w4).out.mono ?_
        rintro e w5 ⟨rfl, q5⟩
        have Q5 := Lib.hid q5; clear q5
        go_wp2_with fail
        refine (C5.out w5).out.mono ?_
        rintro e w6 ⟨rfl, q6⟩
        have Q6 := Lib.hid q6; clear q6
        go_wp2_with fail
        go_ret
        exact ⟨rfl, (((((H1.out.trans (drawn_chg Q2.out)).trans (drawn_chg Q3.out)).trans (drawn_chg Q4.out)).trans (drawn_chg Q5.out)).trans (drawn_chg Q6.out)).below (Nat.le_refl _) (fun _ h => h.elim)⟩
  · subst h1
    obtain ⟨e1, e3, e5⟩ := h2
    rw [e1] at K1 K2
    rw [e3] at K3 K4
    rw [e5] at K5
    have C1 := Lib.hid K1; have C2 := Lib.hid K2; have C3 := Lib.hid K3; have C4 := Lib.hid K4; have C5 := Lib.hid K5
    clear K1 K2 K3 K4 K5 e1 e3 e5 ha hb
    go_enter Try.func11, Try.ntmps11
    go_wp2_with fail
    refine (wshown _).mono ?_
    rintro e w1 ⟨rfl, hsh⟩
    have H1 := Lib.hid hsh; clear hsh
    go_wp2_with fail
    refine (C1.out w1).out.mono ?_
    rintro e w2 ⟨rfl, q2⟩
    have Q2 := Lib.hid q2; clear q2
    go_wp2_with fail
    refine (C2.out w2).out.mono ?_
    rintro e w3 ⟨rfl, q3⟩
    have Q3 := Lib.hid q3; clear q3
    go_wp2_with fail
    refine (C3.out w3).out.mono ?_
    rintro e w4 ⟨rfl, q4⟩
    have Q4 := Lib.hid q4; clear q4
    go_wp2_with fail
    refine (C4.out w4).out.mono ?_
    rintro e w5 ⟨rfl, q5⟩
    have Q5 := Lib.hid q5; clear q5
    go_wp2_with fail
    refine (C5.out w5).out.mono ?_
    rintro e w6 ⟨rfl, q6⟩
    have Q6 := Lib.hid q6; clear q6
    go_wp2_with fail
    go_ret
    exact ⟨rfl, (((((H1.out.trans (drawn_chg Q2.out)).trans (drawn_chg Q3.out)).trans (drawn_chg Q4.out)).trans (drawn_chg Q5.out)).trans (drawn_chg Q6.out)).below (Nat.le_refl _) (fun _ h => h.elim)⟩
end Go.Proofs.Ytcpmjgjefhpgkaa
