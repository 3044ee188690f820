/-
  The walk of the statement WordNarrow: true, for every input.
-/
import Derived.Test.YtcpmjgjefhpgkaaWdShown
import Derived.Test.YtcpmjgjefhpgkaaWordL
import Derived.Test.YtcpmjgjefhpgkaaWordM
namespace Go.Proofs.Ytcpmjgjefhpgkaa
open Go.RowKit

set_option maxHeartbeats 800000 in
theorem wordNarrow_45 (w : World) (a b : Nat) (ha : a < 18446744073709551616) (hb : b < 18446744073709551616) :
    Calls Try.prog 8 #[.int .i64 45, .int .u64 a, .int .u64 b] w fun e w' => e = .returned (.bool true) ∧ Below w.heap.size w w' := by
  have K1 := fun W => Lib.hid (word_reckon W 45 a b ha hb)
  have K2 := fun W => Lib.hid (word_low W a ha 32)
  have K3 := fun W => Lib.hid (word_sign W b 32)
  have K4 := fun W => Lib.hid (word_reckon W 45 (wLow a 32) (wSign b 32) (wLow_lt a 32 ha) (wSign_lt b 32 hb))
  have K5 := fun W => Lib.hid (word_sign W (wReckon 45 a b) 32)
  rw [show wOk 45 = true from rfl] at K1
  rw [show wOk 45 = true from rfl, narrow_same 45 a b (by omega)] at K4
  rw [narrow_sign 45 a b (by omega)] at K5
  generalize wReckon 45 a b = v at *
  generalize wLow a 32 = x at *
  generalize wSign b 32 = y at *
  have C1 := Lib.hid K1; have C2 := Lib.hid K2; have C3 := Lib.hid K3; have C4 := Lib.hid K4; have C5 := Lib.hid K5
  clear K1 K2 K3 K4 K5 ha hb
  go_enter Try.func8, Try.ntmps8
  go_wp2_with fail
  refine (wshown _).mono ?_
  rintro e w1 ⟨rfl, hsh⟩
  have H1 := Lib.hid hsh; clear hsh
  go_wp2_with fail
  refine (C1.out w1).out.mono ?_
  rintro e w2 ⟨rfl, q2⟩
  have Q2 := Lib.hid q2; clear q2
  go_wp2_with fail
  refine (C2.out w2).out.mono ?_
  rintro e wq ⟨rfl, rfl⟩
  go_wp2_with fail
  refine (C3.out w2).out.mono ?_
  rintro e wq ⟨rfl, rfl⟩
  go_wp2_with fail
  refine (C4.out w2).out.mono ?_
  rintro e w3 ⟨rfl, q3⟩
  have Q3 := Lib.hid q3; clear q3
  go_wp2_with fail
  refine (C5.out w3).out.mono ?_
  rintro e wq ⟨rfl, rfl⟩
  go_wp2_with fail
  go_ret
  exact ⟨rfl, ((H1.out.trans (drawn_chg Q2.out)).trans (drawn_chg Q3.out)).below (Nat.le_refl _) (fun _ h => h.elim)⟩

set_option maxHeartbeats 800000 in
theorem wordNarrow_46 (w : World) (a b : Nat) (ha : a < 18446744073709551616) (hb : b < 18446744073709551616) :
    Calls Try.prog 8 #[.int .i64 46, .int .u64 a, .int .u64 b] w fun e w' => e = .returned (.bool true) ∧ Below w.heap.size w w' := by
  have K1 := fun W => Lib.hid (word_reckon W 46 a b ha hb)
  have K2 := fun W => Lib.hid (word_low W a ha 32)
  have K3 := fun W => Lib.hid (word_sign W b 32)
  have K4 := fun W => Lib.hid (word_reckon W 46 (wLow a 32) (wSign b 32) (wLow_lt a 32 ha) (wSign_lt b 32 hb))
  have K5 := fun W => Lib.hid (word_sign W (wReckon 46 a b) 32)
  rw [show wOk 46 = true from rfl] at K1
  rw [show wOk 46 = true from rfl, narrow_same 46 a b (by omega)] at K4
  rw [narrow_sign 46 a b (by omega)] at K5
  generalize wReckon 46 a b = v at *
  generalize wLow a 32 = x at *
  generalize wSign b 32 = y at *
  have C1 := Lib.hid K1; have C2 := Lib.hid K2; have C3 := Lib.hid K3; have C4 := Lib.hid K4; have C5 := Lib.hid K5
  clear K1 K2 K3 K4 K5 ha hb
  go_enter Try.func8, Try.ntmps8
  go_wp2_with fail
  refine (wshown _).mono ?_
  rintro e w1 ⟨rfl, hsh⟩
  have H1 := Lib.hid hsh; clear hsh
  go_wp2_with fail
  refine (C1.out w1).out.mono ?_
  rintro e w2 ⟨rfl, q2⟩
  have Q2 := Lib.hid q2; clear q2
  go_wp2_with fail
  refine (C2.out w2).out.mono ?_
  rintro e wq ⟨rfl, rfl⟩
  go_wp2_with fail
  refine (C3.out w2).out.mono ?_
  rintro e wq ⟨rfl, rfl⟩
  go_wp2_with fail
  refine (C4.out w2).out.mono ?_
  rintro e w3 ⟨rfl, q3⟩
  have Q3 := Lib.hid q3; clear q3
  go_wp2_with fail
  refine (C5.out w3).out.mono ?_
  rintro e wq ⟨rfl, rfl⟩
  go_wp2_with fail
  go_ret
  exact ⟨rfl, ((H1.out.trans (drawn_chg Q2.out)).trans (drawn_chg Q3.out)).below (Nat.le_refl _) (fun _ h => h.elim)⟩

set_option maxHeartbeats 800000 in
theorem wordNarrow_47 (w : World) (a b : Nat) (ha : a < 18446744073709551616) (hb : b < 18446744073709551616) :
    Calls Try.prog 8 #[.int .i64 47, .int .u64 a, .int .u64 b] w fun e w' => e = .returned (.bool true) ∧ Below w.heap.size w w' := by
  have K1 := fun W => Lib.hid (word_reckon W 47 a b ha hb)
  have K2 := fun W => Lib.hid (word_low W a ha 32)
  have K3 := fun W => Lib.hid (word_sign W b 32)
  have K4 := fun W => Lib.hid (word_reckon W 47 (wLow a 32) (wSign b 32) (wLow_lt a 32 ha) (wSign_lt b 32 hb))
  have K5 := fun W => Lib.hid (word_sign W (wReckon 47 a b) 32)
  rw [show wOk 47 = true from rfl] at K1
  rw [show wOk 47 = true from rfl, narrow_same 47 a b (by omega)] at K4
  rw [narrow_sign 47 a b (by omega)] at K5
  generalize wReckon 47 a b = v at *
  generalize wLow a 32 = x at *
  generalize wSign b 32 = y at *
  have C1 := Lib.hid K1; have C2 := Lib.hid K2; have C3 := Lib.hid K3; have C4 := Lib.hid K4; have C5 := Lib.hid K5
  clear K1 K2 K3 K4 K5 ha hb
  go_enter Try.func8, Try.ntmps8
  go_wp2_with fail
  refine (wshown _).mono ?_
  rintro e w1 ⟨rfl, hsh⟩
  have H1 := Lib.hid hsh; clear hsh
  go_wp2_with fail
  refine (C1.out w1).out.mono ?_
  rintro e w2 ⟨rfl, q2⟩
  have Q2 := Lib.hid q2; clear q2
  go_wp2_with fail
  refine (C2.out w2).out.mono ?_
  rintro e wq ⟨rfl, rfl⟩
  go_wp2_with fail
  refine (C3.out w2).out.mono ?_
  rintro e wq ⟨rfl, rfl⟩
  go_wp2_with fail
  refine (C4.out w2).out.mono ?_
  rintro e w3 ⟨rfl, q3⟩
  have Q3 := Lib.hid q3; clear q3
  go_wp2_with fail
  refine (C5.out w3).out.mono ?_
  rintro e wq ⟨rfl, rfl⟩
  go_wp2_with fail
  go_ret
  exact ⟨rfl, ((H1.out.trans (drawn_chg Q2.out)).trans (drawn_chg Q3.out)).below (Nat.le_refl _) (fun _ h => h.elim)⟩

set_option maxHeartbeats 800000 in
theorem wordNarrow_48 (w : World) (a b : Nat) (ha : a < 18446744073709551616) (hb : b < 18446744073709551616) :
    Calls Try.prog 8 #[.int .i64 48, .int .u64 a, .int .u64 b] w fun e w' => e = .returned (.bool true) ∧ Below w.heap.size w w' := by
  have K1 := fun W => Lib.hid (word_reckon W 48 a b ha hb)
  have K2 := fun W => Lib.hid (word_low W a ha 32)
  have K3 := fun W => Lib.hid (word_sign W b 32)
  have K4 := fun W => Lib.hid (word_reckon W 48 (wLow a 32) (wSign b 32) (wLow_lt a 32 ha) (wSign_lt b 32 hb))
  have K5 := fun W => Lib.hid (word_sign W (wReckon 48 a b) 32)
  rw [show wOk 48 = true from rfl] at K1
  rw [show wOk 48 = true from rfl, narrow_same 48 a b (by omega)] at K4
  rw [narrow_sign 48 a b (by omega)] at K5
  generalize wReckon 48 a b = v at *
  generalize wLow a 32 = x at *
  generalize wSign b 32 = y at *
  have C1 := Lib.hid K1; have C2 := Lib.hid K2; have C3 := Lib.hid K3; have C4 := Lib.hid K4; have C5 := Lib.hid K5
  clear K1 K2 K3 K4 K5 ha hb
  go_enter Try.func8, Try.ntmps8
  go_wp2_with fail
  refine (wshown _).mono ?_
  rintro e w1 ⟨rfl, hsh⟩
  have H1 := Lib.hid hsh; clear hsh
  go_wp2_with fail
  refine (C1.out w1).out.mono ?_
  rintro e w2 ⟨rfl, q2⟩
  have Q2 := Lib.hid q2; clear q2
  go_wp2_with fail
  refine (C2.out w2).out.mono ?_
  rintro e wq ⟨rfl, rfl⟩
  go_wp2_with fail
  refine (C3.out w2).out.mono ?_
  rintro e wq ⟨rfl, rfl⟩
  go_wp2_with fail
  refine (C4.out w2).out.mono ?_
  rintro e w3 ⟨rfl, q3⟩
  have Q3 := Lib.hid q3; clear q3
  go_wp2_with fail
  refine (C5.out w3).out.mono ?_
  rintro e wq ⟨rfl, rfl⟩
  go_wp2_with fail
  go_ret
  exact ⟨rfl, ((H1.out.trans (drawn_chg Q2.out)).trans (drawn_chg Q3.out)).below (Nat.le_refl _) (fun _ h => h.elim)⟩

set_option maxHeartbeats 800000 in
theorem wordNarrow_49 (w : World) (a b : Nat) (ha : a < 18446744073709551616) (hb : b < 18446744073709551616) :
    Calls Try.prog 8 #[.int .i64 49, .int .u64 a, .int .u64 b] w fun e w' => e = .returned (.bool true) ∧ Below w.heap.size w w' := by
  have K1 := fun W => Lib.hid (word_reckon W 49 a b ha hb)
  have K2 := fun W => Lib.hid (word_low W a ha 32)
  have K3 := fun W => Lib.hid (word_sign W b 32)
  have K4 := fun W => Lib.hid (word_reckon W 49 (wLow a 32) (wSign b 32) (wLow_lt a 32 ha) (wSign_lt b 32 hb))
  have K5 := fun W => Lib.hid (word_sign W (wReckon 49 a b) 32)
  rw [show wOk 49 = true from rfl] at K1
  rw [show wOk 49 = true from rfl, narrow_same 49 a b (by omega)] at K4
  rw [narrow_sign 49 a b (by omega)] at K5
  generalize wReckon 49 a b = v at *
  generalize wLow a 32 = x at *
  generalize wSign b 32 = y at *
  have C1 := Lib.hid K1; have C2 := Lib.hid K2; have C3 := Lib.hid K3; have C4 := Lib.hid K4; have C5 := Lib.hid K5
  clear K1 K2 K3 K4 K5 ha hb
  go_enter Try.func8, Try.ntmps8
  go_wp2_with fail
  refine (wshown _).mono ?_
  rintro e w1 ⟨rfl, hsh⟩
  have H1 := Lib.hid hsh; clear hsh
  go_wp2_with fail
  refine (C1.out w1).out.mono ?_
  rintro e w2 ⟨rfl, q2⟩
  have Q2 := Lib.hid q2; clear q2
  go_wp2_with fail
  refine (C2.out w2).out.mono ?_
  rintro e wq ⟨rfl, rfl⟩
  go_wp2_with fail
  refine (C3.out w2).out.mono ?_
  rintro e wq ⟨rfl, rfl⟩
  go_wp2_with fail
  refine (C4.out w2).out.mono ?_
  rintro e w3 ⟨rfl, q3⟩
  have Q3 := Lib.hid q3; clear q3
  go_wp2_with fail
  refine (C5.out w3).out.mono ?_
  rintro e wq ⟨rfl, rfl⟩
  go_wp2_with fail
  go_ret
  exact ⟨rfl, ((H1.out.trans (drawn_chg Q2.out)).trans (drawn_chg Q3.out)).below (Nat.le_refl _) (fun _ h => h.elim)⟩

set_option maxHeartbeats 800000 in
theorem wordNarrow_58 (w : World) (a b : Nat) (ha : a < 18446744073709551616) (hb : b < 18446744073709551616) :
    Calls Try.prog 8 #[.int .i64 58, .int .u64 a, .int .u64 b] w fun e w' => e = .returned (.bool true) ∧ Below w.heap.size w w' := by
  have K1 := fun W => Lib.hid (word_reckon W 58 a b ha hb)
  have K2 := fun W => Lib.hid (word_low W a ha 32)
  have K3 := fun W => Lib.hid (word_sign W b 32)
  have K4 := fun W => Lib.hid (word_reckon W 58 (wLow a 32) (wSign b 32) (wLow_lt a 32 ha) (wSign_lt b 32 hb))
  have K5 := fun W => Lib.hid (word_sign W (wReckon 58 a b) 32)
  rw [show wOk 58 = true from rfl] at K1
  rw [show wOk 58 = true from rfl, narrow_same 58 a b (by omega)] at K4
  rw [narrow_sign 58 a b (by omega)] at K5
  generalize wReckon 58 a b = v at *
  generalize wLow a 32 = x at *
  generalize wSign b 32 = y at *
  have C1 := Lib.hid K1; have C2 := Lib.hid K2; have C3 := Lib.hid K3; have C4 := Lib.hid K4; have C5 := Lib.hid K5
  clear K1 K2 K3 K4 K5 ha hb
  go_enter Try.func8, Try.ntmps8
  go_wp2_with fail
  refine (wshown _).mono ?_
  rintro e w1 ⟨rfl, hsh⟩
  have H1 := Lib.hid hsh; clear hsh
  go_wp2_with fail
  refine (C1.out w1).out.mono ?_
  rintro e w2 ⟨rfl, q2⟩
  have Q2 := Lib.hid q2; clear q2
  go_wp2_with fail
  refine (C2.out w2).out.mono ?_
  rintro e wq ⟨rfl, rfl⟩
  go_wp2_with fail
  refine (C3.out w2).out.mono ?_
  rintro e wq ⟨rfl, rfl⟩
  go_wp2_with fail
  refine (C4.out w2).out.mono ?_
  rintro e w3 ⟨rfl, q3⟩
  have Q3 := Lib.hid q3; clear q3
  go_wp2_with fail
  refine (C5.out w3).out.mono ?_
  rintro e wq ⟨rfl, rfl⟩
  go_wp2_with fail
  go_ret
  exact ⟨rfl, ((H1.out.trans (drawn_chg Q2.out)).trans (drawn_chg Q3.out)).below (Nat.le_refl _) (fun _ h => h.elim)⟩

set_option maxHeartbeats 800000 in
theorem wordNarrow_59 (w : World) (a b : Nat) (ha : a < 18446744073709551616) (hb : b < 18446744073709551616) :
    Calls Try.prog 8 #[.int .i64 59, .int .u64 a, .int .u64 b] w fun e w' => e = .returned (.bool true) ∧ Below w.heap.size w w' := by
  have K1 := fun W => Lib.hid (word_reckon W 59 a b ha hb)
  have K2 := fun W => Lib.hid (word_low W a ha 32)
  have K3 := fun W => Lib.hid (word_sign W b 32)
  have K4 := fun W => Lib.hid (word_reckon W 59 (wLow a 32) (wSign b 32) (wLow_lt a 32 ha) (wSign_lt b 32 hb))
  have K5 := fun W => Lib.hid (word_sign W (wReckon 59 a b) 32)
  rw [show wOk 59 = true from rfl] at K1
  rw [show wOk 59 = true from rfl, narrow_same 59 a b (by omega)] at K4
  rw [narrow_sign 59 a b (by omega)] at K5
  generalize wReckon 59 a b = v at *
  generalize wLow a 32 = x at *
  generalize wSign b 32 = y at *
  have C1 := Lib.hid K1; have C2 := Lib.hid K2; have C3 := Lib.hid K3; have C4 := Lib.hid K4; have C5 := Lib.hid K5
  clear K1 K2 K3 K4 K5 ha hb
  go_enter Try.func8, Try.ntmps8
  go_wp2_with fail
  refine (wshown _).mono ?_
  rintro e w1 ⟨rfl, hsh⟩
  have H1 := Lib.hid hsh; clear hsh
  go_wp2_with fail
  refine (C1.out w1).out.mono ?_
  rintro e w2 ⟨rfl, q2⟩
  have Q2 := Lib.hid q2; clear q2
  go_wp2_with fail
  refine (C2.out w2).out.mono ?_
  rintro e wq ⟨rfl, rfl⟩
  go_wp2_with fail
  refine (C3.out w2).out.mono ?_
  rintro e wq ⟨rfl, rfl⟩
  go_wp2_with fail
  refine (C4.out w2).out.mono ?_
  rintro e w3 ⟨rfl, q3⟩
  have Q3 := Lib.hid q3; clear q3
  go_wp2_with fail
  refine (C5.out w3).out.mono ?_
  rintro e wq ⟨rfl, rfl⟩
  go_wp2_with fail
  go_ret
  exact ⟨rfl, ((H1.out.trans (drawn_chg Q2.out)).trans (drawn_chg Q3.out)).below (Nat.le_refl _) (fun _ h => h.elim)⟩

set_option maxHeartbeats 800000 in
theorem wordNarrow_60 (w : World) (a b : Nat) (ha : a < 18446744073709551616) (hb : b < 18446744073709551616) :
    Calls Try.prog 8 #[.int .i64 60, .int .u64 a, .int .u64 b] w fun e w' => e = .returned (.bool true) ∧ Below w.heap.size w w' := by
  have K1 := fun W => Lib.hid (word_reckon W 60 a b ha hb)
  have K2 := fun W => Lib.hid (word_low W a ha 32)
  have K3 := fun W => Lib.hid (word_sign W b 32)
  have K4 := fun W => Lib.hid (word_reckon W 60 (wLow a 32) (wSign b 32) (wLow_lt a 32 ha) (wSign_lt b 32 hb))
  have K5 := fun W => Lib.hid (word_sign W (wReckon 60 a b) 32)
  rw [show wOk 60 = true from rfl] at K1
  rw [show wOk 60 = true from rfl, narrow_same 60 a b (by omega)] at K4
  rw [narrow_sign 60 a b (by omega)] at K5
  generalize wReckon 60 a b = v at *
  generalize wLow a 32 = x at *
  generalize wSign b 32 = y at *
  have C1 := Lib.hid K1; have C2 := Lib.hid K2; have C3 := Lib.hid K3; have C4 := Lib.hid K4; have C5 := Lib.hid K5
  clear K1 K2 K3 K4 K5 ha hb
  go_enter Try.func8, Try.ntmps8
  go_wp2_with fail
  refine (wshown _).mono ?_
  rintro e w1 ⟨rfl, hsh⟩
  have H1 := Lib.hid hsh; clear hsh
  go_wp2_with fail
  refine (C1.out w1).out.mono ?_
  rintro e w2 ⟨rfl, q2⟩
  have Q2 := Lib.hid q2; clear q2
  go_wp2_with fail
  refine (C2.out w2).out.mono ?_
  rintro e wq ⟨rfl, rfl⟩
  go_wp2_with fail
  refine (C3.out w2).out.mono ?_
  rintro e wq ⟨rfl, rfl⟩
  go_wp2_with fail
  refine (C4.out w2).out.mono ?_
  rintro e w3 ⟨rfl, q3⟩
  have Q3 := Lib.hid q3; clear q3
  go_wp2_with fail
  refine (C5.out w3).out.mono ?_
  rintro e wq ⟨rfl, rfl⟩
  go_wp2_with fail
  go_ret
  exact ⟨rfl, ((H1.out.trans (drawn_chg Q2.out)).trans (drawn_chg Q3.out)).below (Nat.le_refl _) (fun _ h => h.elim)⟩

set_option maxHeartbeats 800000 in
theorem wordNarrow_61 (w : World) (a b : Nat) (ha : a < 18446744073709551616) (hb : b < 18446744073709551616) :
    Calls Try.prog 8 #[.int .i64 61, .int .u64 a, .int .u64 b] w fun e w' => e = .returned (.bool true) ∧ Below w.heap.size w w' := by
  have K1 := fun W => Lib.hid (word_reckon W 61 a b ha hb)
  have K2 := fun W => Lib.hid (word_low W a ha 32)
  have K3 := fun W => Lib.hid (word_sign W b 32)
  have K4 := fun W => Lib.hid (word_reckon W 61 (wLow a 32) (wSign b 32) (wLow_lt a 32 ha) (wSign_lt b 32 hb))
  have K5 := fun W => Lib.hid (word_sign W (wReckon 61 a b) 32)
  rw [show wOk 61 = true from rfl] at K1
  rw [show wOk 61 = true from rfl, narrow_same 61 a b (by omega)] at K4
  rw [narrow_sign 61 a b (by omega)] at K5
  generalize wReckon 61 a b = v at *
  generalize wLow a 32 = x at *
  generalize wSign b 32 = y at *
  have C1 := Lib.hid K1; have C2 := Lib.hid K2; have C3 := Lib.hid K3; have C4 := Lib.hid K4; have C5 := Lib.hid K5
  clear K1 K2 K3 K4 K5 ha hb
  go_enter Try.func8, Try.ntmps8
  go_wp2_with fail
  refine (wshown _).mono ?_
  rintro e w1 ⟨rfl, hsh⟩
  have H1 := Lib.hid hsh; clear hsh
  go_wp2_with fail
  refine (C1.out w1).out.mono ?_
  rintro e w2 ⟨rfl, q2⟩
  have Q2 := Lib.hid q2; clear q2
  go_wp2_with fail
  refine (C2.out w2).out.mono ?_
  rintro e wq ⟨rfl, rfl⟩
  go_wp2_with fail
  refine (C3.out w2).out.mono ?_
  rintro e wq ⟨rfl, rfl⟩
  go_wp2_with fail
  refine (C4.out w2).out.mono ?_
  rintro e w3 ⟨rfl, q3⟩
  have Q3 := Lib.hid q3; clear q3
  go_wp2_with fail
  refine (C5.out w3).out.mono ?_
  rintro e wq ⟨rfl, rfl⟩
  go_wp2_with fail
  go_ret
  exact ⟨rfl, ((H1.out.trans (drawn_chg Q2.out)).trans (drawn_chg Q3.out)).below (Nat.le_refl _) (fun _ h => h.elim)⟩

set_option maxHeartbeats 800000 in
theorem wordNarrow_62 (w : World) (a b : Nat) (ha : a < 18446744073709551616) (hb : b < 18446744073709551616) :
    Calls Try.prog 8 #[.int .i64 62, .int .u64 a, .int .u64 b] w fun e w' => e = .returned (.bool true) ∧ Below w.heap.size w w' := by
  have K1 := fun W => Lib.hid (word_reckon W 62 a b ha hb)
  have K2 := fun W => Lib.hid (word_low W a ha 32)
  have K3 := fun W => Lib.hid (word_sign W b 32)
  have K4 := fun W => Lib.hid (word_reckon W 62 (wLow a 32) (wSign b 32) (wLow_lt a 32 ha) (wSign_lt b 32 hb))
  have K5 := fun W => Lib.hid (word_sign W (wReckon 62 a b) 32)
  rw [show wOk 62 = true from rfl] at K1
  rw [show wOk 62 = true from rfl, narrow_same 62 a b (by omega)] at K4
  rw [narrow_sign 62 a b (by omega)] at K5
  generalize wReckon 62 a b = v at *
  generalize wLow a 32 = x at *
  generalize wSign b 32 = y at *
  have C1 := Lib.hid K1; have C2 := Lib.hid K2; have C3 := Lib.hid K3; have C4 := Lib.hid K4; have C5 := Lib.hid K5
  clear K1 K2 K3 K4 K5 ha hb
  go_enter Try.func8, Try.ntmps8
  go_wp2_with fail
  refine (wshown _).mono ?_
  rintro e w1 ⟨rfl, hsh⟩
  have H1 := Lib.hid hsh; clear hsh
  go_wp2_with fail
  refine (C1.out w1).out.mono ?_
  rintro e w2 ⟨rfl, q2⟩
  have Q2 := Lib.hid q2; clear q2
  go_wp2_with fail
  refine (C2.out w2).out.mono ?_
  rintro e wq ⟨rfl, rfl⟩
  go_wp2_with fail
  refine (C3.out w2).out.mono ?_
  rintro e wq ⟨rfl, rfl⟩
  go_wp2_with fail
  refine (C4.out w2).out.mono ?_
  rintro e w3 ⟨rfl, q3⟩
  have Q3 := Lib.hid q3; clear q3
  go_wp2_with fail
  refine (C5.out w3).out.mono ?_
  rintro e wq ⟨rfl, rfl⟩
  go_wp2_with fail
  go_ret
  exact ⟨rfl, ((H1.out.trans (drawn_chg Q2.out)).trans (drawn_chg Q3.out)).below (Nat.le_refl _) (fun _ h => h.elim)⟩

theorem wordNarrow_lo (w : World) (op : Int) (a b : Int) (d1 : decide (45 ≤ op) = false) (d2 : decide (58 ≤ op) = false) :
    Calls Try.prog 8 #[.int .i64 op, .int .u64 a, .int .u64 b] w fun e w' => e = .returned (.bool true) ∧ Below w.heap.size w w' := by
  go_enter Try.func8, Try.ntmps8
  go_wp2_with fail
  refine (wshown _).mono ?_
  rintro e w1 ⟨rfl, hsh⟩
  have H1 := Lib.hid hsh; clear hsh
  go_wp2_with fail
  go_ret
  exact ⟨rfl, H1.out.below (Nat.le_refl _) (fun _ h => h.elim)⟩

theorem wordNarrow_mi (w : World) (op : Int) (a b : Int) (d1 : decide (45 ≤ op) = true) (d3 : decide (op ≤ 49) = false) (d2 : decide (58 ≤ op) = false) :
    Calls Try.prog 8 #[.int .i64 op, .int .u64 a, .int .u64 b] w fun e w' => e = .returned (.bool true) ∧ Below w.heap.size w w' := by
  go_enter Try.func8, Try.ntmps8
  go_wp2_with fail
  refine (wshown _).mono ?_
  rintro e w1 ⟨rfl, hsh⟩
  have H1 := Lib.hid hsh; clear hsh
  go_wp2_with fail
  go_ret
  exact ⟨rfl, H1.out.below (Nat.le_refl _) (fun _ h => h.elim)⟩

theorem wordNarrow_hi (w : World) (op : Int) (a b : Int) (d1 : decide (45 ≤ op) = true) (d3 : decide (op ≤ 49) = false) (d2 : decide (58 ≤ op) = true) (d4 : decide (op ≤ 62) = false) :
    Calls Try.prog 8 #[.int .i64 op, .int .u64 a, .int .u64 b] w fun e w' => e = .returned (.bool true) ∧ Below w.heap.size w w' := by
  go_enter Try.func8, Try.ntmps8
  go_wp2_with fail
  refine (wshown _).mono ?_
  rintro e w1 ⟨rfl, hsh⟩
  have H1 := Lib.hid hsh; clear hsh
  go_wp2_with fail
  go_ret
  exact ⟨rfl, H1.out.below (Nat.le_refl _) (fun _ h => h.elim)⟩

theorem wordNarrow_walk (w : World) (a0 : Int) (w0 : (Lit.int .i64 a0).wf = true) (a1 : Int) (w1 : (Lit.int .u64 a1).wf = true) (a2 : Int) (w2 : (Lit.int .u64 a2).wf = true) :
    Calls Try.prog 8 #[.int .i64 a0, .int .u64 a1, .int .u64 a2] w fun e w' => e = .returned (.bool true) ∧ Below w.heap.size w w' := by
  by_cases h1 : 45 ≤ a0
  · by_cases h2 : a0 ≤ 49
    · obtain ⟨a, rfl, ha⟩ := u64_nat w1
      obtain ⟨b, rfl, hb⟩ := u64_nat w2
      have h : a0 = 45 ∨ a0 = 46 ∨ a0 = 47 ∨ a0 = 48 ∨ a0 = 49 := by omega
      rcases h with rfl | rfl | rfl | rfl | rfl
      · exact wordNarrow_45 w a b ha hb
      · exact wordNarrow_46 w a b ha hb
      · exact wordNarrow_47 w a b ha hb
      · exact wordNarrow_48 w a b ha hb
      · exact wordNarrow_49 w a b ha hb
    · by_cases h3 : 58 ≤ a0
      · by_cases h4 : a0 ≤ 62
        · obtain ⟨a, rfl, ha⟩ := u64_nat w1
          obtain ⟨b, rfl, hb⟩ := u64_nat w2
          have h : a0 = 58 ∨ a0 = 59 ∨ a0 = 60 ∨ a0 = 61 ∨ a0 = 62 := by omega
          rcases h with rfl | rfl | rfl | rfl | rfl
          · exact wordNarrow_58 w a b ha hb
          · exact wordNarrow_59 w a b ha hb
          · exact wordNarrow_60 w a b ha hb
          · exact wordNarrow_61 w a b ha hb
          · exact wordNarrow_62 w a b ha hb
        · exact wordNarrow_hi w a0 a1 a2 (decide_eq_true h1) (decide_eq_false h2) (decide_eq_true h3) (decide_eq_false h4)
      · exact wordNarrow_mi w a0 a1 a2 (decide_eq_true h1) (decide_eq_false h2) (decide_eq_false h3)
  · exact wordNarrow_lo w a0 a1 a2 (decide_eq_false h1) (decide_eq_false (by omega))
end Go.Proofs.Ytcpmjgjefhpgkaa
