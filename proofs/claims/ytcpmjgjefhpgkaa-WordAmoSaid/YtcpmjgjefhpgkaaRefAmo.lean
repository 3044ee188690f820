/-
  The document's Amo by its contract, at each opcode, and for every number.
-/
import Derived.Test.YtcpmjgjefhpgkaaRefB
namespace Go.Proofs.Ytcpmjgjefhpgkaa
open Go.RowKit

theorem ramo_no (w : World) (op : Int) (a b : Nat) (h : op < 68 ∨ op = 77 ∨ op = 78 ∨ 87 < op) :
    Calls Try.prog 21 #[.int .i64 op, .int .u64 a, .int .u64 b] w fun e w' => e = .returned (.tuple #[.int .u64 0, .bool false]) ∧ w = w' := by
  by_cases h1 : op < 68
  · clear h
    go_enter Try.func21, Try.ntmps21
    go_wp2_with fail
    go_ret2
    exact ⟨rfl, rfl⟩
  · by_cases h2 : 87 < op
    · clear h
      go_enter Try.func21, Try.ntmps21
      go_wp2_with fail
      go_ret2
      exact ⟨rfl, rfl⟩
    · have h3 : op = 77 ∨ op = 78 := by omega
      clear h h1 h2
      rcases h3 with rfl | rfl
      · go_enter Try.func21, Try.ntmps21
        go_wp2_with fail
        go_ret2
        exact ⟨rfl, rfl⟩
      · go_enter Try.func21, Try.ntmps21
        go_wp2_with fail
        go_ret2
        exact ⟨rfl, rfl⟩

set_option maxRecDepth 100000 in
set_option maxHeartbeats 800000 in
theorem ramo_68 (w : World) (a b : Nat) (ha : a < 18446744073709551616) (hb : b < 18446744073709551616) :
    Calls Try.prog 21 #[.int .i64 68, .int .u64 a, .int .u64 b] w fun e w' => e = .returned (.tuple #[.int .u64 (wAmo 68 a b : Nat), .bool true]) ∧ w = w' := by
  have e : wAmo 68 a b = wLow (wAmoV 0 (wSign a 32) (wSign b 32)) 32 := by simp [wAmo, wAmoK]
  rw [e]
  clear e
  have X := Lib.hid (ref_sign w a ha 32)
  have Y := Lib.hid (ref_sign w b hb 32)
  have lx := wSign_lt a 32 ha
  have ly := wSign_lt b 32 hb
  generalize wSign a 32 = x at *
  generalize wSign b 32 = y at *
  have C := Lib.hid (ref_less w x y lx ly)
  have F : (y : Int) = ((wAmoV 0 x y : Nat) : Int) := rfl
  generalize wAmoV 0 x y = g at *
  have Z := Lib.hid (ref_low w g 32)
  generalize wLow g 32 = z at *
  generalize decide (sg x < sg y) = c at *
  clear ha hb lx ly
  obtain rfl : y = g := by omega
  clear F
  go_enter Try.func21, Try.ntmps21
  go_wp2_with fail
  refine X.out.mono ?_
  rintro e w' ⟨rfl, rfl⟩
  go_wp2_with fail
  refine Y.out.mono ?_
  rintro e w' ⟨rfl, rfl⟩
  go_wp2_with fail
  refine C.out.mono ?_
  rintro e w' ⟨rfl, rfl⟩
  go_wp2_with fail
  refine Z.out.mono ?_
  rintro e w' ⟨rfl, rfl⟩
  go_wp2_with fail
  go_ret2
  exact ⟨rfl, rfl⟩

set_option maxRecDepth 100000 in
set_option maxHeartbeats 800000 in
theorem ramo_69 (w : World) (a b : Nat) (ha : a < 18446744073709551616) (hb : b < 18446744073709551616) :
    Calls Try.prog 21 #[.int .i64 69, .int .u64 a, .int .u64 b] w fun e w' => e = .returned (.tuple #[.int .u64 (wAmo 69 a b : Nat), .bool true]) ∧ w = w' := by
  have e : wAmo 69 a b = wLow (wAmoV 1 (wSign a 32) (wSign b 32)) 32 := by simp [wAmo, wAmoK]
  rw [e]
  clear e
  have X := Lib.hid (ref_sign w a ha 32)
  have Y := Lib.hid (ref_sign w b hb 32)
  have lx := wSign_lt a 32 ha
  have ly := wSign_lt b 32 hb
  generalize wSign a 32 = x at *
  generalize wSign b 32 = y at *
  have C := Lib.hid (ref_less w x y lx ly)
  have F : IntKind.u64.wrap ((x : Int) + y) = ((wAmoV 1 x y : Nat) : Int) := u64_un _
  generalize wAmoV 1 x y = g at *
  have Z := Lib.hid (ref_low w g 32)
  generalize wLow g 32 = z at *
  generalize decide (sg x < sg y) = c at *
  clear ha hb lx ly
  go_enter Try.func21, Try.ntmps21
  go_wp2_with fail
  refine X.out.mono ?_
  rintro e w' ⟨rfl, rfl⟩
  go_wp2_with fail
  refine Y.out.mono ?_
  rintro e w' ⟨rfl, rfl⟩
  go_wp2_with fail
  refine C.out.mono ?_
  rintro e w' ⟨rfl, rfl⟩
  go_wp2_with fail
  refine Z.out.mono ?_
  rintro e w' ⟨rfl, rfl⟩
  go_wp2_with fail
  go_ret2
  exact ⟨rfl, rfl⟩

set_option maxRecDepth 100000 in
set_option maxHeartbeats 800000 in
theorem ramo_70 (w : World) (a b : Nat) (ha : a < 18446744073709551616) (hb : b < 18446744073709551616) :
    Calls Try.prog 21 #[.int .i64 70, .int .u64 a, .int .u64 b] w fun e w' => e = .returned (.tuple #[.int .u64 (wAmo 70 a b : Nat), .bool true]) ∧ w = w' := by
  have e : wAmo 70 a b = wLow (wAmoV 2 (wSign a 32) (wSign b 32)) 32 := by simp [wAmo, wAmoK]
  rw [e]
  clear e
  have X := Lib.hid (ref_sign w a ha 32)
  have Y := Lib.hid (ref_sign w b hb 32)
  have lx := wSign_lt a 32 ha
  have ly := wSign_lt b 32 hb
  generalize wSign a 32 = x at *
  generalize wSign b 32 = y at *
  have C := Lib.hid (ref_less w x y lx ly)
  have F : bits BinOp.xor IntKind.u64 (x : Int) y = ((wAmoV 2 x y : Nat) : Int) := u64_xor_nat x y lx ly
  generalize wAmoV 2 x y = g at *
  have Z := Lib.hid (ref_low w g 32)
  generalize wLow g 32 = z at *
  generalize decide (sg x < sg y) = c at *
  clear ha hb lx ly
  go_enter Try.func21, Try.ntmps21
  go_wp2_with fail
  refine X.out.mono ?_
  rintro e w' ⟨rfl, rfl⟩
  go_wp2_with fail
  refine Y.out.mono ?_
  rintro e w' ⟨rfl, rfl⟩
  go_wp2_with fail
  refine C.out.mono ?_
  rintro e w' ⟨rfl, rfl⟩
  go_wp2_with fail
  refine Z.out.mono ?_
  rintro e w' ⟨rfl, rfl⟩
  go_wp2_with fail
  go_ret2
  exact ⟨rfl, rfl⟩

set_option maxRecDepth 100000 in
set_option maxHeartbeats 800000 in
theorem ramo_71 (w : World) (a b : Nat) (ha : a < 18446744073709551616) (hb : b < 18446744073709551616) :
    Calls Try.prog 21 #[.int .i64 71, .int .u64 a, .int .u64 b] w fun e w' => e = .returned (.tuple #[.int .u64 (wAmo 71 a b : Nat), .bool true]) ∧ w = w' := by
  have e : wAmo 71 a b = wLow (wAmoV 3 (wSign a 32) (wSign b 32)) 32 := by simp [wAmo, wAmoK]
  rw [e]
  clear e
  have X := Lib.hid (ref_sign w a ha 32)
  have Y := Lib.hid (ref_sign w b hb 32)
  have lx := wSign_lt a 32 ha
  have ly := wSign_lt b 32 hb
  generalize wSign a 32 = x at *
  generalize wSign b 32 = y at *
  have C := Lib.hid (ref_less w x y lx ly)
  have F : bits BinOp.and IntKind.u64 (x : Int) y = ((wAmoV 3 x y : Nat) : Int) := u64_and_nat x y lx ly
  generalize wAmoV 3 x y = g at *
  have Z := Lib.hid (ref_low w g 32)
  generalize wLow g 32 = z at *
  generalize decide (sg x < sg y) = c at *
  clear ha hb lx ly
  go_enter Try.func21, Try.ntmps21
  go_wp2_with fail
  refine X.out.mono ?_
  rintro e w' ⟨rfl, rfl⟩
  go_wp2_with fail
  refine Y.out.mono ?_
  rintro e w' ⟨rfl, rfl⟩
  go_wp2_with fail
  refine C.out.mono ?_
  rintro e w' ⟨rfl, rfl⟩
  go_wp2_with fail
  refine Z.out.mono ?_
  rintro e w' ⟨rfl, rfl⟩
  go_wp2_with fail
  go_ret2
  exact ⟨rfl, rfl⟩

set_option maxRecDepth 100000 in
set_option maxHeartbeats 800000 in
theorem ramo_72 (w : World) (a b : Nat) (ha : a < 18446744073709551616) (hb : b < 18446744073709551616) :
    Calls Try.prog 21 #[.int .i64 72, .int .u64 a, .int .u64 b] w fun e w' => e = .returned (.tuple #[.int .u64 (wAmo 72 a b : Nat), .bool true]) ∧ w = w' := by
  have e : wAmo 72 a b = wLow (wAmoV 4 (wSign a 32) (wSign b 32)) 32 := by simp [wAmo, wAmoK]
  rw [e]
  clear e
  have X := Lib.hid (ref_sign w a ha 32)
  have Y := Lib.hid (ref_sign w b hb 32)
  have lx := wSign_lt a 32 ha
  have ly := wSign_lt b 32 hb
  generalize wSign a 32 = x at *
  generalize wSign b 32 = y at *
  have C := Lib.hid (ref_less w x y lx ly)
  have F : bits BinOp.or IntKind.u64 (x : Int) y = ((wAmoV 4 x y : Nat) : Int) := u64_or_nat x y lx ly
  generalize wAmoV 4 x y = g at *
  have Z := Lib.hid (ref_low w g 32)
  generalize wLow g 32 = z at *
  generalize decide (sg x < sg y) = c at *
  clear ha hb lx ly
  go_enter Try.func21, Try.ntmps21
  go_wp2_with fail
  refine X.out.mono ?_
  rintro e w' ⟨rfl, rfl⟩
  go_wp2_with fail
  refine Y.out.mono ?_
  rintro e w' ⟨rfl, rfl⟩
  go_wp2_with fail
  refine C.out.mono ?_
  rintro e w' ⟨rfl, rfl⟩
  go_wp2_with fail
  refine Z.out.mono ?_
  rintro e w' ⟨rfl, rfl⟩
  go_wp2_with fail
  go_ret2
  exact ⟨rfl, rfl⟩

set_option maxRecDepth 100000 in
set_option maxHeartbeats 800000 in
theorem ramo_73 (w : World) (a b : Nat) (ha : a < 18446744073709551616) (hb : b < 18446744073709551616) :
    Calls Try.prog 21 #[.int .i64 73, .int .u64 a, .int .u64 b] w fun e w' => e = .returned (.tuple #[.int .u64 (wAmo 73 a b : Nat), .bool true]) ∧ w = w' := by
  have e : wAmo 73 a b = wLow (wAmoV 5 (wSign a 32) (wSign b 32)) 32 := by simp [wAmo, wAmoK]
  rw [e]
  clear e
  have X := Lib.hid (ref_sign w a ha 32)
  have Y := Lib.hid (ref_sign w b hb 32)
  have lx := wSign_lt a 32 ha
  have ly := wSign_lt b 32 hb
  generalize wSign a 32 = x at *
  generalize wSign b 32 = y at *
  have C := Lib.hid (ref_less w x y lx ly)
  have F0 : decide (sg x < sg y) = true → x = wAmoV 5 x y := by
    intro h
    have h := of_decide_eq_true h
    show x = un (min (sg x) (sg y))
    rw [Int.min_eq_left (by omega), un_sg x lx]
  have F1 : decide (sg x < sg y) = false → y = wAmoV 5 x y := by
    intro h
    have h := of_decide_eq_false h
    show y = un (min (sg x) (sg y))
    rw [Int.min_eq_right (by omega), un_sg y ly]
  generalize wAmoV 5 x y = g at *
  have Z := Lib.hid (ref_low w g 32)
  generalize wLow g 32 = z at *
  generalize decide (sg x < sg y) = c at *
  clear ha hb lx ly
  cases c
  · obtain rfl := F1 rfl
    clear F0 F1
    go_enter Try.func21, Try.ntmps21
    go_wp2_with fail
    refine X.out.mono ?_
    rintro e w' ⟨rfl, rfl⟩
    go_wp2_with fail
    refine Y.out.mono ?_
    rintro e w' ⟨rfl, rfl⟩
    go_wp2_with fail
    refine C.out.mono ?_
    rintro e w' ⟨rfl, rfl⟩
    go_wp2_with fail
    refine Z.out.mono ?_
    rintro e w' ⟨rfl, rfl⟩
    go_wp2_with fail
    go_ret2
    exact ⟨rfl, rfl⟩
  · obtain rfl := F0 rfl
    clear F0 F1
    go_enter Try.func21, Try.ntmps21
    go_wp2_with fail
    refine X.out.mono ?_
    rintro e w' ⟨rfl, rfl⟩
    go_wp2_with fail
    refine Y.out.mono ?_
    rintro e w' ⟨rfl, rfl⟩
    go_wp2_with fail
    refine C.out.mono ?_
    rintro e w' ⟨rfl, rfl⟩
    go_wp2_with fail
    refine Z.out.mono ?_
    rintro e w' ⟨rfl, rfl⟩
    go_wp2_with fail
    go_ret2
    exact ⟨rfl, rfl⟩

set_option maxRecDepth 100000 in
set_option maxHeartbeats 800000 in
theorem ramo_74 (w : World) (a b : Nat) (ha : a < 18446744073709551616) (hb : b < 18446744073709551616) :
    Calls Try.prog 21 #[.int .i64 74, .int .u64 a, .int .u64 b] w fun e w' => e = .returned (.tuple #[.int .u64 (wAmo 74 a b : Nat), .bool true]) ∧ w = w' := by
  have e : wAmo 74 a b = wLow (wAmoV 6 (wSign a 32) (wSign b 32)) 32 := by simp [wAmo, wAmoK]
  rw [e]
  clear e
  have X := Lib.hid (ref_sign w a ha 32)
  have Y := Lib.hid (ref_sign w b hb 32)
  have lx := wSign_lt a 32 ha
  have ly := wSign_lt b 32 hb
  generalize wSign a 32 = x at *
  generalize wSign b 32 = y at *
  have C := Lib.hid (ref_less w x y lx ly)
  have F0 : decide (sg x < sg y) = true → y = wAmoV 6 x y := by
    intro h
    have h := of_decide_eq_true h
    show y = un (max (sg x) (sg y))
    rw [Int.max_eq_right (by omega), un_sg y ly]
  have F1 : decide (sg x < sg y) = false → x = wAmoV 6 x y := by
    intro h
    have h := of_decide_eq_false h
    show x = un (max (sg x) (sg y))
    rw [Int.max_eq_left (by omega), un_sg x lx]
  generalize wAmoV 6 x y = g at *
  have Z := Lib.hid (ref_low w g 32)
  generalize wLow g 32 = z at *
  generalize decide (sg x < sg y) = c at *
  clear ha hb lx ly
  cases c
  · obtain rfl := F1 rfl
    clear F0 F1
    go_enter Try.func21, Try.ntmps21
    go_wp2_with fail
    refine X.out.mono ?_
    rintro e w' ⟨rfl, rfl⟩
    go_wp2_with fail
    refine Y.out.mono ?_
    rintro e w' ⟨rfl, rfl⟩
    go_wp2_with fail
    refine C.out.mono ?_
    rintro e w' ⟨rfl, rfl⟩
    go_wp2_with fail
    refine Z.out.mono ?_
    rintro e w' ⟨rfl, rfl⟩
    go_wp2_with fail
    go_ret2
    exact ⟨rfl, rfl⟩
  · obtain rfl := F0 rfl
    clear F0 F1
    go_enter Try.func21, Try.ntmps21
    go_wp2_with fail
    refine X.out.mono ?_
    rintro e w' ⟨rfl, rfl⟩
    go_wp2_with fail
    refine Y.out.mono ?_
    rintro e w' ⟨rfl, rfl⟩
    go_wp2_with fail
    refine C.out.mono ?_
    rintro e w' ⟨rfl, rfl⟩
    go_wp2_with fail
    refine Z.out.mono ?_
    rintro e w' ⟨rfl, rfl⟩
    go_wp2_with fail
    go_ret2
    exact ⟨rfl, rfl⟩

set_option maxRecDepth 100000 in
set_option maxHeartbeats 800000 in
theorem ramo_75 (w : World) (a b : Nat) (ha : a < 18446744073709551616) (hb : b < 18446744073709551616) :
    Calls Try.prog 21 #[.int .i64 75, .int .u64 a, .int .u64 b] w fun e w' => e = .returned (.tuple #[.int .u64 (wAmo 75 a b : Nat), .bool true]) ∧ w = w' := by
  have e : wAmo 75 a b = wLow (wAmoV 7 (wLow (wSign a 32) 32) (wLow (wSign b 32) 32)) 32 := by simp [wAmo, wAmoK]
  rw [e]
  clear e
  rw [low_sign, low_sign]
  have X := Lib.hid (ref_sign w a ha 32)
  have Y := Lib.hid (ref_sign w b hb 32)
  have lx := wSign_lt a 32 ha
  have ly := wSign_lt b 32 hb
  have X2 := Lib.hid (ref_low w a 32)
  have Y2 := Lib.hid (ref_low w b 32)
  generalize wLow a 32 = x2 at *
  generalize wLow b 32 = y2 at *
  generalize wSign a 32 = x at *
  generalize wSign b 32 = y at *
  have C := Lib.hid (ref_less w x y lx ly)
  have F0 : decide (x2 < y2) = true → x2 = wAmoV 7 x2 y2 := by
    intro h
    have h := of_decide_eq_true h
    show x2 = min x2 y2
    omega
  have F1 : decide (x2 < y2) = false → y2 = wAmoV 7 x2 y2 := by
    intro h
    have h := of_decide_eq_false h
    show y2 = min x2 y2
    omega
  generalize wAmoV 7 x2 y2 = g at *
  have Z := Lib.hid (ref_low w g 32)
  generalize wLow g 32 = z at *
  have D : decide ((x2 : Int) < (y2 : Int)) = decide (x2 < y2) := decide_eq_decide.mpr (by omega)
  generalize decide (sg x < sg y) = c at *
  generalize hd : decide (x2 < y2) = d at *
  have HD := Lib.hid hd
  clear ha hb lx ly hd
  cases d
  · obtain rfl := F1 rfl
    clear F0 F1
    have D2 : ¬ x2 < y2 := of_decide_eq_false HD.out
    go_enter Try.func21, Try.ntmps21
    go_wp2_with fail
    refine X.out.mono ?_
    rintro e w' ⟨rfl, rfl⟩
    go_wp2_with fail
    refine Y.out.mono ?_
    rintro e w' ⟨rfl, rfl⟩
    go_wp2_with fail
    refine C.out.mono ?_
    rintro e w' ⟨rfl, rfl⟩
    go_wp2_with fail
    refine X2.out.mono ?_
    rintro e w' ⟨rfl, rfl⟩
    go_wp2_with fail
    refine Y2.out.mono ?_
    rintro e w' ⟨rfl, rfl⟩
    go_wp2_with fail
    refine Z.out.mono ?_
    rintro e w' ⟨rfl, rfl⟩
    go_wp2_with fail
    go_ret2
    exact ⟨rfl, rfl⟩
  · obtain rfl := F0 rfl
    clear F0 F1
    have D2 : x2 < y2 := of_decide_eq_true HD.out
    go_enter Try.func21, Try.ntmps21
    go_wp2_with fail
    refine X.out.mono ?_
    rintro e w' ⟨rfl, rfl⟩
    go_wp2_with fail
    refine Y.out.mono ?_
    rintro e w' ⟨rfl, rfl⟩
    go_wp2_with fail
    refine C.out.mono ?_
    rintro e w' ⟨rfl, rfl⟩
    go_wp2_with fail
    refine X2.out.mono ?_
    rintro e w' ⟨rfl, rfl⟩
    go_wp2_with fail
    refine Y2.out.mono ?_
    rintro e w' ⟨rfl, rfl⟩
    go_wp2_with fail
    refine Z.out.mono ?_
    rintro e w' ⟨rfl, rfl⟩
    go_wp2_with fail
    go_ret2
    exact ⟨rfl, rfl⟩

set_option maxRecDepth 100000 in
set_option maxHeartbeats 800000 in
theorem ramo_76 (w : World) (a b : Nat) (ha : a < 18446744073709551616) (hb : b < 18446744073709551616) :
    Calls Try.prog 21 #[.int .i64 76, .int .u64 a, .int .u64 b] w fun e w' => e = .returned (.tuple #[.int .u64 (wAmo 76 a b : Nat), .bool true]) ∧ w = w' := by
  have e : wAmo 76 a b = wLow (wAmoV 8 (wLow (wSign a 32) 32) (wLow (wSign b 32) 32)) 32 := by simp [wAmo, wAmoK]
  rw [e]
  clear e
  rw [low_sign, low_sign]
  have X := Lib.hid (ref_sign w a ha 32)
  have Y := Lib.hid (ref_sign w b hb 32)
  have lx := wSign_lt a 32 ha
  have ly := wSign_lt b 32 hb
  have X2 := Lib.hid (ref_low w a 32)
  have Y2 := Lib.hid (ref_low w b 32)
  generalize wLow a 32 = x2 at *
  generalize wLow b 32 = y2 at *
  generalize wSign a 32 = x at *
  generalize wSign b 32 = y at *
  have C := Lib.hid (ref_less w x y lx ly)
  have F0 : decide (x2 < y2) = true → y2 = wAmoV 8 x2 y2 := by
    intro h
    have h := of_decide_eq_true h
    show y2 = max x2 y2
    omega
  have F1 : decide (x2 < y2) = false → x2 = wAmoV 8 x2 y2 := by
    intro h
    have h := of_decide_eq_false h
    show x2 = max x2 y2
    omega
  generalize wAmoV 8 x2 y2 = g at *
  have Z := Lib.hid (ref_low w g 32)
  generalize wLow g 32 = z at *
  have D : decide ((x2 : Int) < (y2 : Int)) = decide (x2 < y2) := decide_eq_decide.mpr (by omega)
  generalize decide (sg x < sg y) = c at *
  generalize hd : decide (x2 < y2) = d at *
  have HD := Lib.hid hd
  clear ha hb lx ly hd
  cases d
  · obtain rfl := F1 rfl
    clear F0 F1
    have D2 : ¬ x2 < y2 := of_decide_eq_false HD.out
    go_enter Try.func21, Try.ntmps21
    go_wp2_with fail
    refine X.out.mono ?_
    rintro e w' ⟨rfl, rfl⟩
    go_wp2_with fail
    refine Y.out.mono ?_
    rintro e w' ⟨rfl, rfl⟩
    go_wp2_with fail
    refine C.out.mono ?_
    rintro e w' ⟨rfl, rfl⟩
    go_wp2_with fail
    refine X2.out.mono ?_
    rintro e w' ⟨rfl, rfl⟩
    go_wp2_with fail
    refine Y2.out.mono ?_
    rintro e w' ⟨rfl, rfl⟩
    go_wp2_with fail
    refine Z.out.mono ?_
    rintro e w' ⟨rfl, rfl⟩
    go_wp2_with fail
    go_ret2
    exact ⟨rfl, rfl⟩
  · obtain rfl := F0 rfl
    clear F0 F1
    have D2 : x2 < y2 := of_decide_eq_true HD.out
    go_enter Try.func21, Try.ntmps21
    go_wp2_with fail
    refine X.out.mono ?_
    rintro e w' ⟨rfl, rfl⟩
    go_wp2_with fail
    refine Y.out.mono ?_
    rintro e w' ⟨rfl, rfl⟩
    go_wp2_with fail
    refine C.out.mono ?_
    rintro e w' ⟨rfl, rfl⟩
    go_wp2_with fail
    refine X2.out.mono ?_
    rintro e w' ⟨rfl, rfl⟩
    go_wp2_with fail
    refine Y2.out.mono ?_
    rintro e w' ⟨rfl, rfl⟩
    go_wp2_with fail
    refine Z.out.mono ?_
    rintro e w' ⟨rfl, rfl⟩
    go_wp2_with fail
    go_ret2
    exact ⟨rfl, rfl⟩

set_option maxRecDepth 100000 in
set_option maxHeartbeats 800000 in
theorem ramo_79 (w : World) (a b : Nat) (ha : a < 18446744073709551616) (hb : b < 18446744073709551616) :
    Calls Try.prog 21 #[.int .i64 79, .int .u64 a, .int .u64 b] w fun e w' => e = .returned (.tuple #[.int .u64 (wAmo 79 a b : Nat), .bool true]) ∧ w = w' := by
  have e : wAmo 79 a b = wLow (wAmoV 0 (wSign a 64) (wSign b 64)) 64 := by simp [wAmo, wAmoK]
  rw [e]
  clear e
  have X := Lib.hid (ref_sign w a ha 64)
  have Y := Lib.hid (ref_sign w b hb 64)
  have lx := wSign_lt a 64 ha
  have ly := wSign_lt b 64 hb
  generalize wSign a 64 = x at *
  generalize wSign b 64 = y at *
  have C := Lib.hid (ref_less w x y lx ly)
  have F : (y : Int) = ((wAmoV 0 x y : Nat) : Int) := rfl
  generalize wAmoV 0 x y = g at *
  have Z := Lib.hid (ref_low w g 64)
  generalize wLow g 64 = z at *
  generalize decide (sg x < sg y) = c at *
  clear ha hb lx ly
  obtain rfl : y = g := by omega
  clear F
  go_enter Try.func21, Try.ntmps21
  go_wp2_with fail
  refine X.out.mono ?_
  rintro e w' ⟨rfl, rfl⟩
  go_wp2_with fail
  refine Y.out.mono ?_
  rintro e w' ⟨rfl, rfl⟩
  go_wp2_with fail
  refine C.out.mono ?_
  rintro e w' ⟨rfl, rfl⟩
  go_wp2_with fail
  refine Z.out.mono ?_
  rintro e w' ⟨rfl, rfl⟩
  go_wp2_with fail
  go_ret2
  exact ⟨rfl, rfl⟩

set_option maxRecDepth 100000 in
set_option maxHeartbeats 800000 in
theorem ramo_80 (w : World) (a b : Nat) (ha : a < 18446744073709551616) (hb : b < 18446744073709551616) :
    Calls Try.prog 21 #[.int .i64 80, .int .u64 a, .int .u64 b] w fun e w' => e = .returned (.tuple #[.int .u64 (wAmo 80 a b : Nat), .bool true]) ∧ w = w' := by
  have e : wAmo 80 a b = wLow (wAmoV 1 (wSign a 64) (wSign b 64)) 64 := by simp [wAmo, wAmoK]
  rw [e]
  clear e
  have X := Lib.hid (ref_sign w a ha 64)
  have Y := Lib.hid (ref_sign w b hb 64)
  have lx := wSign_lt a 64 ha
  have ly := wSign_lt b 64 hb
  generalize wSign a 64 = x at *
  generalize wSign b 64 = y at *
  have C := Lib.hid (ref_less w x y lx ly)
  have F : IntKind.u64.wrap ((x : Int) + y) = ((wAmoV 1 x y : Nat) : Int) := u64_un _
  generalize wAmoV 1 x y = g at *
  have Z := Lib.hid (ref_low w g 64)
  generalize wLow g 64 = z at *
  generalize decide (sg x < sg y) = c at *
  clear ha hb lx ly
  go_enter Try.func21, Try.ntmps21
  go_wp2_with fail
  refine X.out.mono ?_
  rintro e w' ⟨rfl, rfl⟩
  go_wp2_with fail
  refine Y.out.mono ?_
  rintro e w' ⟨rfl, rfl⟩
  go_wp2_with fail
  refine C.out.mono ?_
  rintro e w' ⟨rfl, rfl⟩
  go_wp2_with fail
  refine Z.out.mono ?_
  rintro e w' ⟨rfl, rfl⟩
  go_wp2_with fail
  go_ret2
  exact ⟨rfl, rfl⟩

set_option maxRecDepth 100000 in
set_option maxHeartbeats 800000 in
theorem ramo_81 (w : World) (a b : Nat) (ha : a < 18446744073709551616) (hb : b < 18446744073709551616) :
    Calls Try.prog 21 #[.int .i64 81, .int .u64 a, .int .u64 b] w fun e w' => e = .returned (.tuple #[.int .u64 (wAmo 81 a b : Nat), .bool true]) ∧ w = w' := by
  have e : wAmo 81 a b = wLow (wAmoV 2 (wSign a 64) (wSign b 64)) 64 := by simp [wAmo, wAmoK]
  rw [e]
  clear e
  have X := Lib.hid (ref_sign w a ha 64)
  have Y := Lib.hid (ref_sign w b hb 64)
  have lx := wSign_lt a 64 ha
  have ly := wSign_lt b 64 hb
  generalize wSign a 64 = x at *
  generalize wSign b 64 = y at *
  have C := Lib.hid (ref_less w x y lx ly)
  have F : bits BinOp.xor IntKind.u64 (x : Int) y = ((wAmoV 2 x y : Nat) : Int) := u64_xor_nat x y lx ly
  generalize wAmoV 2 x y = g at *
  have Z := Lib.hid (ref_low w g 64)
  generalize wLow g 64 = z at *
  generalize decide (sg x < sg y) = c at *
  clear ha hb lx ly
  go_enter Try.func21, Try.ntmps21
  go_wp2_with fail
  refine X.out.mono ?_
  rintro e w' ⟨rfl, rfl⟩
  go_wp2_with fail
  refine Y.out.mono ?_
  rintro e w' ⟨rfl, rfl⟩
  go_wp2_with fail
  refine C.out.mono ?_
  rintro e w' ⟨rfl, rfl⟩
  go_wp2_with fail
  refine Z.out.mono ?_
  rintro e w' ⟨rfl, rfl⟩
  go_wp2_with fail
  go_ret2
  exact ⟨rfl, rfl⟩

set_option maxRecDepth 100000 in
set_option maxHeartbeats 800000 in
theorem ramo_82 (w : World) (a b : Nat) (ha : a < 18446744073709551616) (hb : b < 18446744073709551616) :
    Calls Try.prog 21 #[.int .i64 82, .int .u64 a, .int .u64 b] w fun e w' => e = .returned (.tuple #[.int .u64 (wAmo 82 a b : Nat), .bool true]) ∧ w = w' := by
  have e : wAmo 82 a b = wLow (wAmoV 3 (wSign a 64) (wSign b 64)) 64 := by simp [wAmo, wAmoK]
  rw [e]
  clear e
  have X := Lib.hid (ref_sign w a ha 64)
  have Y := Lib.hid (ref_sign w b hb 64)
  have lx := wSign_lt a 64 ha
  have ly := wSign_lt b 64 hb
  generalize wSign a 64 = x at *
  generalize wSign b 64 = y at *
  have C := Lib.hid (ref_less w x y lx ly)
  have F : bits BinOp.and IntKind.u64 (x : Int) y = ((wAmoV 3 x y : Nat) : Int) := u64_and_nat x y lx ly
  generalize wAmoV 3 x y = g at *
  have Z := Lib.hid (ref_low w g 64)
  generalize wLow g 64 = z at *
  generalize decide (sg x < sg y) = c at *
  clear ha hb lx ly
  go_enter Try.func21, Try.ntmps21
  go_wp2_with fail
  refine X.out.mono ?_
  rintro e w' ⟨rfl, rfl⟩
  go_wp2_with fail
  refine Y.out.mono ?_
  rintro e w' ⟨rfl, rfl⟩
  go_wp2_with fail
  refine C.out.mono ?_
  rintro e w' ⟨rfl, rfl⟩
  go_wp2_with fail
  refine Z.out.mono ?_
  rintro e w' ⟨rfl, rfl⟩
  go_wp2_with fail
  go_ret2
  exact ⟨rfl, rfl⟩

set_option maxRecDepth 100000 in
set_option maxHeartbeats 800000 in
theorem ramo_83 (w : World) (a b : Nat) (ha : a < 18446744073709551616) (hb : b < 18446744073709551616) :
    Calls Try.prog 21 #[.int .i64 83, .int .u64 a, .int .u64 b] w fun e w' => e = .returned (.tuple #[.int .u64 (wAmo 83 a b : Nat), .bool true]) ∧ w = w' := by
  have e : wAmo 83 a b = wLow (wAmoV 4 (wSign a 64) (wSign b 64)) 64 := by simp [wAmo, wAmoK]
  rw [e]
  clear e
  have X := Lib.hid (ref_sign w a ha 64)
  have Y := Lib.hid (ref_sign w b hb 64)
  have lx := wSign_lt a 64 ha
  have ly := wSign_lt b 64 hb
  generalize wSign a 64 = x at *
  generalize wSign b 64 = y at *
  have C := Lib.hid (ref_less w x y lx ly)
  have F : bits BinOp.or IntKind.u64 (x : Int) y = ((wAmoV 4 x y : Nat) : Int) := u64_or_nat x y lx ly
  generalize wAmoV 4 x y = g at *
  have Z := Lib.hid (ref_low w g 64)
  generalize wLow g 64 = z at *
  generalize decide (sg x < sg y) = c at *
  clear ha hb lx ly
  go_enter Try.func21, Try.ntmps21
  go_wp2_with fail
  refine X.out.mono ?_
  rintro e w' ⟨rfl, rfl⟩
  go_wp2_with fail
  refine Y.out.mono ?_
  rintro e w' ⟨rfl, rfl⟩
  go_wp2_with fail
  refine C.out.mono ?_
  rintro e w' ⟨rfl, rfl⟩
  go_wp2_with fail
  refine Z.out.mono ?_
  rintro e w' ⟨rfl, rfl⟩
  go_wp2_with fail
  go_ret2
  exact ⟨rfl, rfl⟩

set_option maxRecDepth 100000 in
set_option maxHeartbeats 800000 in
theorem ramo_84 (w : World) (a b : Nat) (ha : a < 18446744073709551616) (hb : b < 18446744073709551616) :
    Calls Try.prog 21 #[.int .i64 84, .int .u64 a, .int .u64 b] w fun e w' => e = .returned (.tuple #[.int .u64 (wAmo 84 a b : Nat), .bool true]) ∧ w = w' := by
  have e : wAmo 84 a b = wLow (wAmoV 5 (wSign a 64) (wSign b 64)) 64 := by simp [wAmo, wAmoK]
  rw [e]
  clear e
  have X := Lib.hid (ref_sign w a ha 64)
  have Y := Lib.hid (ref_sign w b hb 64)
  have lx := wSign_lt a 64 ha
  have ly := wSign_lt b 64 hb
  generalize wSign a 64 = x at *
  generalize wSign b 64 = y at *
  have C := Lib.hid (ref_less w x y lx ly)
  have F0 : decide (sg x < sg y) = true → x = wAmoV 5 x y := by
    intro h
    have h := of_decide_eq_true h
    show x = un (min (sg x) (sg y))
    rw [Int.min_eq_left (by omega), un_sg x lx]
  have F1 : decide (sg x < sg y) = false → y = wAmoV 5 x y := by
    intro h
    have h := of_decide_eq_false h
    show y = un (min (sg x) (sg y))
    rw [Int.min_eq_right (by omega), un_sg y ly]
  generalize wAmoV 5 x y = g at *
  have Z := Lib.hid (ref_low w g 64)
  generalize wLow g 64 = z at *
  generalize decide (sg x < sg y) = c at *
  clear ha hb lx ly
  cases c
  · obtain rfl := F1 rfl
    clear F0 F1
    go_enter Try.func21, Try.ntmps21
    go_wp2_with fail
    refine X.out.mono ?_
    rintro e w' ⟨rfl, rfl⟩
    go_wp2_with fail
    refine Y.out.mono ?_
    rintro e w' ⟨rfl, rfl⟩
    go_wp2_with fail
    refine C.out.mono ?_
    rintro e w' ⟨rfl, rfl⟩
    go_wp2_with fail
    refine Z.out.mono ?_
    rintro e w' ⟨rfl, rfl⟩
    go_wp2_with fail
    go_ret2
    exact ⟨rfl, rfl⟩
  · obtain rfl := F0 rfl
    clear F0 F1
    go_enter Try.func21, Try.ntmps21
    go_wp2_with fail
    refine X.out.mono ?_
    rintro e w' ⟨rfl, rfl⟩
    go_wp2_with fail
    refine Y.out.mono ?_
    rintro e w' ⟨rfl, rfl⟩
    go_wp2_with fail
    refine C.out.mono ?_
    rintro e w' ⟨rfl, rfl⟩
    go_wp2_with fail
    refine Z.out.mono ?_
    rintro e w' ⟨rfl, rfl⟩
    go_wp2_with fail
    go_ret2
    exact ⟨rfl, rfl⟩

set_option maxRecDepth 100000 in
set_option maxHeartbeats 800000 in
theorem ramo_85 (w : World) (a b : Nat) (ha : a < 18446744073709551616) (hb : b < 18446744073709551616) :
    Calls Try.prog 21 #[.int .i64 85, .int .u64 a, .int .u64 b] w fun e w' => e = .returned (.tuple #[.int .u64 (wAmo 85 a b : Nat), .bool true]) ∧ w = w' := by
  have e : wAmo 85 a b = wLow (wAmoV 6 (wSign a 64) (wSign b 64)) 64 := by simp [wAmo, wAmoK]
  rw [e]
  clear e
  have X := Lib.hid (ref_sign w a ha 64)
  have Y := Lib.hid (ref_sign w b hb 64)
  have lx := wSign_lt a 64 ha
  have ly := wSign_lt b 64 hb
  generalize wSign a 64 = x at *
  generalize wSign b 64 = y at *
  have C := Lib.hid (ref_less w x y lx ly)
  have F0 : decide (sg x < sg y) = true → y = wAmoV 6 x y := by
    intro h
    have h := of_decide_eq_true h
    show y = un (max (sg x) (sg y))
    rw [Int.max_eq_right (by omega), un_sg y ly]
  have F1 : decide (sg x < sg y) = false → x = wAmoV 6 x y := by
    intro h
    have h := of_decide_eq_false h
    show x = un (max (sg x) (sg y))
    rw [Int.max_eq_left (by omega), un_sg x lx]
  generalize wAmoV 6 x y = g at *
  have Z := Lib.hid (ref_low w g 64)
  generalize wLow g 64 = z at *
  generalize decide (sg x < sg y) = c at *
  clear ha hb lx ly
  cases c
  · obtain rfl := F1 rfl
    clear F0 F1
    go_enter Try.func21, Try.ntmps21
    go_wp2_with fail
    refine X.out.mono ?_
    rintro e w' ⟨rfl, rfl⟩
    go_wp2_with fail
    refine Y.out.mono ?_
    rintro e w' ⟨rfl, rfl⟩
    go_wp2_with fail
    refine C.out.mono ?_
    rintro e w' ⟨rfl, rfl⟩
    go_wp2_with fail
    refine Z.out.mono ?_
    rintro e w' ⟨rfl, rfl⟩
    go_wp2_with fail
    go_ret2
    exact ⟨rfl, rfl⟩
  · obtain rfl := F0 rfl
    clear F0 F1
    go_enter Try.func21, Try.ntmps21
    go_wp2_with fail
    refine X.out.mono ?_
    rintro e w' ⟨rfl, rfl⟩
    go_wp2_with fail
    refine Y.out.mono ?_
    rintro e w' ⟨rfl, rfl⟩
    go_wp2_with fail
    refine C.out.mono ?_
    rintro e w' ⟨rfl, rfl⟩
    go_wp2_with fail
    refine Z.out.mono ?_
    rintro e w' ⟨rfl, rfl⟩
    go_wp2_with fail
    go_ret2
    exact ⟨rfl, rfl⟩

set_option maxRecDepth 100000 in
set_option maxHeartbeats 800000 in
theorem ramo_86 (w : World) (a b : Nat) (ha : a < 18446744073709551616) (hb : b < 18446744073709551616) :
    Calls Try.prog 21 #[.int .i64 86, .int .u64 a, .int .u64 b] w fun e w' => e = .returned (.tuple #[.int .u64 (wAmo 86 a b : Nat), .bool true]) ∧ w = w' := by
  have e : wAmo 86 a b = wLow (wAmoV 7 (wLow (wSign a 64) 64) (wLow (wSign b 64) 64)) 64 := by simp [wAmo, wAmoK]
  rw [e]
  clear e
  rw [low_sign, low_sign]
  have X := Lib.hid (ref_sign w a ha 64)
  have Y := Lib.hid (ref_sign w b hb 64)
  have lx := wSign_lt a 64 ha
  have ly := wSign_lt b 64 hb
  have X2 := Lib.hid (ref_low w a 64)
  have Y2 := Lib.hid (ref_low w b 64)
  generalize wLow a 64 = x2 at *
  generalize wLow b 64 = y2 at *
  generalize wSign a 64 = x at *
  generalize wSign b 64 = y at *
  have C := Lib.hid (ref_less w x y lx ly)
  have F0 : decide (x2 < y2) = true → x2 = wAmoV 7 x2 y2 := by
    intro h
    have h := of_decide_eq_true h
    show x2 = min x2 y2
    omega
  have F1 : decide (x2 < y2) = false → y2 = wAmoV 7 x2 y2 := by
    intro h
    have h := of_decide_eq_false h
    show y2 = min x2 y2
    omega
  generalize wAmoV 7 x2 y2 = g at *
  have Z := Lib.hid (ref_low w g 64)
  generalize wLow g 64 = z at *
  have D : decide ((x2 : Int) < (y2 : Int)) = decide (x2 < y2) := decide_eq_decide.mpr (by omega)
  generalize decide (sg x < sg y) = c at *
  generalize hd : decide (x2 < y2) = d at *
  have HD := Lib.hid hd
  clear ha hb lx ly hd
  cases d
  · obtain rfl := F1 rfl
    clear F0 F1
    have D2 : ¬ x2 < y2 := of_decide_eq_false HD.out
    go_enter Try.func21, Try.ntmps21
    go_wp2_with fail
    refine X.out.mono ?_
    rintro e w' ⟨rfl, rfl⟩
    go_wp2_with fail
    refine Y.out.mono ?_
    rintro e w' ⟨rfl, rfl⟩
    go_wp2_with fail
    refine C.out.mono ?_
    rintro e w' ⟨rfl, rfl⟩
    go_wp2_with fail
    refine X2.out.mono ?_
    rintro e w' ⟨rfl, rfl⟩
    go_wp2_with fail
    refine Y2.out.mono ?_
    rintro e w' ⟨rfl, rfl⟩
    go_wp2_with fail
    refine Z.out.mono ?_
    rintro e w' ⟨rfl, rfl⟩
    go_wp2_with fail
    go_ret2
    exact ⟨rfl, rfl⟩
  · obtain rfl := F0 rfl
    clear F0 F1
    have D2 : x2 < y2 := of_decide_eq_true HD.out
    go_enter Try.func21, Try.ntmps21
    go_wp2_with fail
    refine X.out.mono ?_
    rintro e w' ⟨rfl, rfl⟩
    go_wp2_with fail
    refine Y.out.mono ?_
    rintro e w' ⟨rfl, rfl⟩
    go_wp2_with fail
    refine C.out.mono ?_
    rintro e w' ⟨rfl, rfl⟩
    go_wp2_with fail
    refine X2.out.mono ?_
    rintro e w' ⟨rfl, rfl⟩
    go_wp2_with fail
    refine Y2.out.mono ?_
    rintro e w' ⟨rfl, rfl⟩
    go_wp2_with fail
    refine Z.out.mono ?_
    rintro e w' ⟨rfl, rfl⟩
    go_wp2_with fail
    go_ret2
    exact ⟨rfl, rfl⟩

set_option maxRecDepth 100000 in
set_option maxHeartbeats 800000 in
theorem ramo_87 (w : World) (a b : Nat) (ha : a < 18446744073709551616) (hb : b < 18446744073709551616) :
    Calls Try.prog 21 #[.int .i64 87, .int .u64 a, .int .u64 b] w fun e w' => e = .returned (.tuple #[.int .u64 (wAmo 87 a b : Nat), .bool true]) ∧ w = w' := by
  have e : wAmo 87 a b = wLow (wAmoV 8 (wLow (wSign a 64) 64) (wLow (wSign b 64) 64)) 64 := by simp [wAmo, wAmoK]
  rw [e]
  clear e
  rw [low_sign, low_sign]
  have X := Lib.hid (ref_sign w a ha 64)
  have Y := Lib.hid (ref_sign w b hb 64)
  have lx := wSign_lt a 64 ha
  have ly := wSign_lt b 64 hb
  have X2 := Lib.hid (ref_low w a 64)
  have Y2 := Lib.hid (ref_low w b 64)
  generalize wLow a 64 = x2 at *
  generalize wLow b 64 = y2 at *
  generalize wSign a 64 = x at *
  generalize wSign b 64 = y at *
  have C := Lib.hid (ref_less w x y lx ly)
  have F0 : decide (x2 < y2) = true → y2 = wAmoV 8 x2 y2 := by
    intro h
    have h := of_decide_eq_true h
    show y2 = max x2 y2
    omega
  have F1 : decide (x2 < y2) = false → x2 = wAmoV 8 x2 y2 := by
    intro h
    have h := of_decide_eq_false h
    show x2 = max x2 y2
    omega
  generalize wAmoV 8 x2 y2 = g at *
  have Z := Lib.hid (ref_low w g 64)
  generalize wLow g 64 = z at *
  have D : decide ((x2 : Int) < (y2 : Int)) = decide (x2 < y2) := decide_eq_decide.mpr (by omega)
  generalize decide (sg x < sg y) = c at *
  generalize hd : decide (x2 < y2) = d at *
  have HD := Lib.hid hd
  clear ha hb lx ly hd
  cases d
  · obtain rfl := F1 rfl
    clear F0 F1
    have D2 : ¬ x2 < y2 := of_decide_eq_false HD.out
    go_enter Try.func21, Try.ntmps21
    go_wp2_with fail
    refine X.out.mono ?_
    rintro e w' ⟨rfl, rfl⟩
    go_wp2_with fail
    refine Y.out.mono ?_
    rintro e w' ⟨rfl, rfl⟩
    go_wp2_with fail
    refine C.out.mono ?_
    rintro e w' ⟨rfl, rfl⟩
    go_wp2_with fail
    refine X2.out.mono ?_
    rintro e w' ⟨rfl, rfl⟩
    go_wp2_with fail
    refine Y2.out.mono ?_
    rintro e w' ⟨rfl, rfl⟩
    go_wp2_with fail
    refine Z.out.mono ?_
    rintro e w' ⟨rfl, rfl⟩
    go_wp2_with fail
    go_ret2
    exact ⟨rfl, rfl⟩
  · obtain rfl := F0 rfl
    clear F0 F1
    have D2 : x2 < y2 := of_decide_eq_true HD.out
    go_enter Try.func21, Try.ntmps21
    go_wp2_with fail
    refine X.out.mono ?_
    rintro e w' ⟨rfl, rfl⟩
    go_wp2_with fail
    refine Y.out.mono ?_
    rintro e w' ⟨rfl, rfl⟩
    go_wp2_with fail
    refine C.out.mono ?_
    rintro e w' ⟨rfl, rfl⟩
    go_wp2_with fail
    refine X2.out.mono ?_
    rintro e w' ⟨rfl, rfl⟩
    go_wp2_with fail
    refine Y2.out.mono ?_
    rintro e w' ⟨rfl, rfl⟩
    go_wp2_with fail
    refine Z.out.mono ?_
    rintro e w' ⟨rfl, rfl⟩
    go_wp2_with fail
    go_ret2
    exact ⟨rfl, rfl⟩

theorem ramo_all (w : World) (op : Int) (a b : Nat) (ha : a < 18446744073709551616) (hb : b < 18446744073709551616) (h2 : op = 68 ∨ op = 69 ∨ op = 70 ∨ op = 71 ∨ op = 72 ∨ op = 73 ∨ op = 74 ∨ op = 75 ∨ op = 76 ∨ op = 79 ∨ op = 80 ∨ op = 81 ∨ op = 82 ∨ op = 83 ∨ op = 84 ∨ op = 85 ∨ op = 86 ∨ op = 87) :
    Calls Try.prog 21 #[.int .i64 op, .int .u64 a, .int .u64 b] w fun e w' => e = .returned (.tuple #[.int .u64 (wAmo op a b : Nat), .bool true]) ∧ w = w' := by
  rcases h2 with rfl | rfl | rfl | rfl | rfl | rfl | rfl | rfl | rfl | rfl | rfl | rfl | rfl | rfl | rfl | rfl | rfl | rfl
  · exact ramo_68 w a b ha hb
  · exact ramo_69 w a b ha hb
  · exact ramo_70 w a b ha hb
  · exact ramo_71 w a b ha hb
  · exact ramo_72 w a b ha hb
  · exact ramo_73 w a b ha hb
  · exact ramo_74 w a b ha hb
  · exact ramo_75 w a b ha hb
  · exact ramo_76 w a b ha hb
  · exact ramo_79 w a b ha hb
  · exact ramo_80 w a b ha hb
  · exact ramo_81 w a b ha hb
  · exact ramo_82 w a b ha hb
  · exact ramo_83 w a b ha hb
  · exact ramo_84 w a b ha hb
  · exact ramo_85 w a b ha hb
  · exact ramo_86 w a b ha hb
  · exact ramo_87 w a b ha hb

theorem ref_amo (w : World) (op : Int) (a b : Nat) (ha : a < 18446744073709551616) (hb : b < 18446744073709551616) :
    Calls Try.prog 21 #[.int .i64 op, .int .u64 a, .int .u64 b] w fun e w' => e = .returned (.tuple #[.int .u64 (wAmoR op a b : Nat), .bool (wAmoOk op)]) ∧ w = w' := by
  by_cases h : wAmoOk op = true
  · have e : wAmoR op a b = wAmo op a b := by simp [wAmoR, h]
    rw [e, h]
    exact ramo_all w op a b ha hb (amo_ops op h)
  · have e : wAmoOk op = false := by simpa using h
    have e2 : wAmoR op a b = 0 := by simp [wAmoR, e]
    rw [e, e2]
    refine ramo_no w op a b ?_
    simp [wAmoOk] at e
    omega
end Go.Proofs.Ytcpmjgjefhpgkaa
