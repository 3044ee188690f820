/-
  word.Amo by its contract, at each opcode, and for every number.
-/
import Derived.Test.YtcpmjgjefhpgkaaWdReckon
namespace Go.Proofs.Ytcpmjgjefhpgkaa
open Go.RowKit

def wAmoV (k : Int) (x y : Nat) : Nat :=
  if k = 0 then y else if k = 1 then un ((x : Int) + y) else if k = 2 then x ^^^ y else if k = 3 then x &&& y else if k = 4 then x ||| y
  else if k = 5 then un (min (sg x) (sg y)) else if k = 6 then un (max (sg x) (sg y)) else if k = 7 then min x y else max x y

theorem wAmoV_lt (k : Int) (x y : Nat) (hx : x < 18446744073709551616) (hy : y < 18446744073709551616) : wAmoV k x y < 18446744073709551616 := by
  have h1 : x ^^^ y < 18446744073709551616 := @Nat.xor_lt_two_pow x y 64 hx hy
  have h2 : x ||| y < 18446744073709551616 := @Nat.or_lt_two_pow x y 64 hx hy
  have h3 : x &&& y < 18446744073709551616 := Nat.lt_of_le_of_lt Nat.and_le_left hx
  have h4 : min x y < 18446744073709551616 := by omega
  have h5 : max x y < 18446744073709551616 := by omega
  unfold wAmoV
  repeat (first | exact un_lt _ | exact hy | exact h1 | exact h2 | exact h3 | exact h4 | exact h5 | refine ite_lt ?_ ?_)

/-- what becomes of a word in memory -/
def wAmoK (bits k : Int) (a b : Nat) : Nat :=
  if k = 7 ∨ k = 8 then wLow (wAmoV k (wLow (wSign a bits) bits) (wLow (wSign b bits) bits)) bits else wLow (wAmoV k (wSign a bits) (wSign b bits)) bits
def wAmo (op : Int) (a b : Nat) : Nat := if op ≤ 76 then wAmoK 32 (op - 68) a b else wAmoK 64 (op - 79) a b

theorem amo_no (w : World) (op : Int) (a b : Nat) (hw : (Lit.int .i64 op).wf = true) (h : op < 68 ∨ op = 77 ∨ op = 78 ∨ 87 < op) :
    Calls Try.prog 20 #[.int .i64 op, .int .u64 a, .int .u64 b] w (RkPost w 0 false) := by
  simp [Lit.wf, IntKind.min, IntKind.max, IntKind.signed, IntKind.bits] at hw
  obtain ⟨q, hq⟩ : ∃ q, q = wrap64 (op - 79) := ⟨_, rfl⟩
  have hq2 : q < 0 ∨ 8 < q := by rw [hq]; unfold wrap64; omega
  have hq3 := hq.symm
  by_cases h1 : op < 68
  · have d1 : decide (68 ≤ op) = false := by simp; omega
    by_cases h2 : q < 0
    · have d2 : decide (q < 0) = true := by simpa using h2
      clear h hw hq hq2 h1 h2
      go_enter Try.func20, Try.ntmps20
      go_wp2_with fail
      go_ret2
      exact ⟨rfl, 0, rfl⟩
    · have d2 : decide (q < 0) = false := by simpa using h2
      have d3 : decide (8 < q) = true := by simp; omega
      clear h hw hq hq2 h1 h2
      go_enter Try.func20, Try.ntmps20
      go_wp2_with fail
      go_ret2
      exact ⟨rfl, 0, rfl⟩
  · have d1 : decide (68 ≤ op) = true := by simp; omega
    have d0 : decide (op ≤ 76) = false := by simp; omega
    by_cases h2 : q < 0
    · have d2 : decide (q < 0) = true := by simpa using h2
      clear h hw hq hq2 h1 h2
      go_enter Try.func20, Try.ntmps20
      go_wp2_with fail
      go_ret2
      exact ⟨rfl, 0, rfl⟩
    · have d2 : decide (q < 0) = false := by simpa using h2
      have d3 : decide (8 < q) = true := by simp; omega
      clear h hw hq hq2 h1 h2
      go_enter Try.func20, Try.ntmps20
      go_wp2_with fail
      go_ret2
      exact ⟨rfl, 0, rfl⟩

set_option maxRecDepth 100000 in
set_option maxHeartbeats 800000 in
theorem amo_68 (w : World) (a b : Nat) (ha : a < 18446744073709551616) (hb : b < 18446744073709551616) :
    Calls Try.prog 20 #[.int .i64 68, .int .u64 a, .int .u64 b] w (RkPost w (wAmo 68 a b) true) := by
  have e : wAmo 68 a b = wLow (wAmoV 0 (wSign a 32) (wSign b 32)) 32 := by simp [wAmo, wAmoK]
  rw [e]
  clear e
  have X := Lib.hid (word_sign w a 32)
  have Y := Lib.hid (word_sign w b 32)
  have lx := wSign_lt a 32 ha
  have ly := wSign_lt b 32 hb
  generalize wSign a 32 = x at *
  generalize wSign b 32 = y at *
  clear ha hb
  have Z := Lib.hid (word_low w (wAmoV 0 x y) (wAmoV_lt 0 x y lx ly) 32)
  have e : wAmoV 0 x y = y := by simp [wAmoV]
  rw [e] at Z
  rw [e]
  clear lx ly e
  go_enter Try.func20, Try.ntmps20
  go_wp2_with fail
  refine X.out.mono ?_
  rintro e w' ⟨rfl, rfl⟩
  go_wp2_with fail
  refine Y.out.mono ?_
  rintro e w' ⟨rfl, rfl⟩
  go_wp2_with fail
  refine Z.out.mono ?_
  rintro e w' ⟨rfl, rfl⟩
  go_wp2_with fail
  go_ret2
  exact ⟨rfl, 0, rfl⟩

set_option maxRecDepth 100000 in
set_option maxHeartbeats 800000 in
theorem amo_69 (w : World) (a b : Nat) (ha : a < 18446744073709551616) (hb : b < 18446744073709551616) :
    Calls Try.prog 20 #[.int .i64 69, .int .u64 a, .int .u64 b] w (RkPost w (wAmo 69 a b) true) := by
  have e : wAmo 69 a b = wLow (wAmoV 1 (wSign a 32) (wSign b 32)) 32 := by simp [wAmo, wAmoK]
  rw [e]
  clear e
  have X := Lib.hid (word_sign w a 32)
  have Y := Lib.hid (word_sign w b 32)
  have lx := wSign_lt a 32 ha
  have ly := wSign_lt b 32 hb
  generalize wSign a 32 = x at *
  generalize wSign b 32 = y at *
  clear ha hb
  have Z := Lib.hid (word_low w (wAmoV 1 x y) (wAmoV_lt 1 x y lx ly) 32)
  have F : IntKind.u64.wrap ((x : Int) + y) = ((wAmoV 1 x y : Nat) : Int) := u64_un _
  generalize wAmoV 1 x y = g at *
  clear lx ly
  go_enter Try.func20, Try.ntmps20
  go_wp2_with fail
  refine X.out.mono ?_
  rintro e w' ⟨rfl, rfl⟩
  go_wp2_with fail
  refine Y.out.mono ?_
  rintro e w' ⟨rfl, rfl⟩
  go_wp2_with fail
  refine Z.out.mono ?_
  rintro e w' ⟨rfl, rfl⟩
  go_wp2_with fail
  go_ret2
  exact ⟨rfl, 0, rfl⟩

set_option maxRecDepth 100000 in
set_option maxHeartbeats 800000 in
theorem amo_70 (w : World) (a b : Nat) (ha : a < 18446744073709551616) (hb : b < 18446744073709551616) :
    Calls Try.prog 20 #[.int .i64 70, .int .u64 a, .int .u64 b] w (RkPost w (wAmo 70 a b) true) := by
  have e : wAmo 70 a b = wLow (wAmoV 2 (wSign a 32) (wSign b 32)) 32 := by simp [wAmo, wAmoK]
  rw [e]
  clear e
  have X := Lib.hid (word_sign w a 32)
  have Y := Lib.hid (word_sign w b 32)
  have lx := wSign_lt a 32 ha
  have ly := wSign_lt b 32 hb
  generalize wSign a 32 = x at *
  generalize wSign b 32 = y at *
  clear ha hb
  have Z := Lib.hid (word_low w (wAmoV 2 x y) (wAmoV_lt 2 x y lx ly) 32)
  have F : bits BinOp.xor IntKind.u64 (x : Int) y = ((wAmoV 2 x y : Nat) : Int) := u64_xor_nat x y lx ly
  generalize wAmoV 2 x y = g at *
  clear lx ly
  go_enter Try.func20, Try.ntmps20
  go_wp2_with fail
  refine X.out.mono ?_
  rintro e w' ⟨rfl, rfl⟩
  go_wp2_with fail
  refine Y.out.mono ?_
  rintro e w' ⟨rfl, rfl⟩
  go_wp2_with fail
  refine Z.out.mono ?_
  rintro e w' ⟨rfl, rfl⟩
  go_wp2_with fail
  go_ret2
  exact ⟨rfl, 0, rfl⟩

set_option maxRecDepth 100000 in
set_option maxHeartbeats 800000 in
theorem amo_71 (w : World) (a b : Nat) (ha : a < 18446744073709551616) (hb : b < 18446744073709551616) :
    Calls Try.prog 20 #[.int .i64 71, .int .u64 a, .int .u64 b] w (RkPost w (wAmo 71 a b) true) := by
  have e : wAmo 71 a b = wLow (wAmoV 3 (wSign a 32) (wSign b 32)) 32 := by simp [wAmo, wAmoK]
  rw [e]
  clear e
  have X := Lib.hid (word_sign w a 32)
  have Y := Lib.hid (word_sign w b 32)
  have lx := wSign_lt a 32 ha
  have ly := wSign_lt b 32 hb
  generalize wSign a 32 = x at *
  generalize wSign b 32 = y at *
  clear ha hb
  have Z := Lib.hid (word_low w (wAmoV 3 x y) (wAmoV_lt 3 x y lx ly) 32)
  have F : bits BinOp.and IntKind.u64 (x : Int) y = ((wAmoV 3 x y : Nat) : Int) := u64_and_nat x y lx ly
  generalize wAmoV 3 x y = g at *
  clear lx ly
  go_enter Try.func20, Try.ntmps20
  go_wp2_with fail
  refine X.out.mono ?_
  rintro e w' ⟨rfl, rfl⟩
  go_wp2_with fail
  refine Y.out.mono ?_
  rintro e w' ⟨rfl, rfl⟩
  go_wp2_with fail
  refine Z.out.mono ?_
  rintro e w' ⟨rfl, rfl⟩
  go_wp2_with fail
  go_ret2
  exact ⟨rfl, 0, rfl⟩

set_option maxRecDepth 100000 in
set_option maxHeartbeats 800000 in
theorem amo_72 (w : World) (a b : Nat) (ha : a < 18446744073709551616) (hb : b < 18446744073709551616) :
    Calls Try.prog 20 #[.int .i64 72, .int .u64 a, .int .u64 b] w (RkPost w (wAmo 72 a b) true) := by
  have e : wAmo 72 a b = wLow (wAmoV 4 (wSign a 32) (wSign b 32)) 32 := by simp [wAmo, wAmoK]
  rw [e]
  clear e
  have X := Lib.hid (word_sign w a 32)
  have Y := Lib.hid (word_sign w b 32)
  have lx := wSign_lt a 32 ha
  have ly := wSign_lt b 32 hb
  generalize wSign a 32 = x at *
  generalize wSign b 32 = y at *
  clear ha hb
  have Z := Lib.hid (word_low w (wAmoV 4 x y) (wAmoV_lt 4 x y lx ly) 32)
  have F : bits BinOp.or IntKind.u64 (x : Int) y = ((wAmoV 4 x y : Nat) : Int) := u64_or_nat x y lx ly
  generalize wAmoV 4 x y = g at *
  clear lx ly
  go_enter Try.func20, Try.ntmps20
  go_wp2_with fail
  refine X.out.mono ?_
  rintro e w' ⟨rfl, rfl⟩
  go_wp2_with fail
  refine Y.out.mono ?_
  rintro e w' ⟨rfl, rfl⟩
  go_wp2_with fail
  refine Z.out.mono ?_
  rintro e w' ⟨rfl, rfl⟩
  go_wp2_with fail
  go_ret2
  exact ⟨rfl, 0, rfl⟩

set_option maxRecDepth 100000 in
set_option maxHeartbeats 800000 in
theorem amo_73 (w : World) (a b : Nat) (ha : a < 18446744073709551616) (hb : b < 18446744073709551616) :
    Calls Try.prog 20 #[.int .i64 73, .int .u64 a, .int .u64 b] w (RkPost w (wAmo 73 a b) true) := by
  have e : wAmo 73 a b = wLow (wAmoV 5 (wSign a 32) (wSign b 32)) 32 := by simp [wAmo, wAmoK]
  rw [e]
  clear e
  have X := Lib.hid (word_sign w a 32)
  have Y := Lib.hid (word_sign w b 32)
  have lx := wSign_lt a 32 ha
  have ly := wSign_lt b 32 hb
  generalize wSign a 32 = x at *
  generalize wSign b 32 = y at *
  clear ha hb
  have Z := Lib.hid (word_low w (wAmoV 5 x y) (wAmoV_lt 5 x y lx ly) 32)
  have hx := wrap64_sg x lx
  have hy := wrap64_sg y ly
  by_cases h : sg x ≤ sg y
  · have F : IntKind.u64.wrap (sg x) = ((wAmoV 5 x y : Nat) : Int) := by
      have e : min (sg x) (sg y) = sg x := by omega
      have e2 : wAmoV 5 x y = un (min (sg x) (sg y)) := by simp [wAmoV]
      rw [e2, e]
      exact u64_un _
    generalize wAmoV 5 x y = g at *
    generalize sg x = s at *
    generalize sg y = t at *
    clear lx ly
    go_enter Try.func20, Try.ntmps20
    go_wp2_with fail
    refine X.out.mono ?_
    rintro e w' ⟨rfl, rfl⟩
    go_wp2_with fail
    refine Y.out.mono ?_
    rintro e w' ⟨rfl, rfl⟩
    go_wp2_with fail
    refine Z.out.mono ?_
    rintro e w' ⟨rfl, rfl⟩
    go_wp2_with fail
    go_ret2
    exact ⟨rfl, 0, rfl⟩
  · have F : IntKind.u64.wrap (sg y) = ((wAmoV 5 x y : Nat) : Int) := by
      have e : min (sg x) (sg y) = sg y := by omega
      have e2 : wAmoV 5 x y = un (min (sg x) (sg y)) := by simp [wAmoV]
      rw [e2, e]
      exact u64_un _
    generalize wAmoV 5 x y = g at *
    generalize sg x = s at *
    generalize sg y = t at *
    clear lx ly
    go_enter Try.func20, Try.ntmps20
    go_wp2_with fail
    refine X.out.mono ?_
    rintro e w' ⟨rfl, rfl⟩
    go_wp2_with fail
    refine Y.out.mono ?_
    rintro e w' ⟨rfl, rfl⟩
    go_wp2_with fail
    refine Z.out.mono ?_
    rintro e w' ⟨rfl, rfl⟩
    go_wp2_with fail
    go_ret2
    exact ⟨rfl, 0, rfl⟩

set_option maxRecDepth 100000 in
set_option maxHeartbeats 800000 in
theorem amo_74 (w : World) (a b : Nat) (ha : a < 18446744073709551616) (hb : b < 18446744073709551616) :
    Calls Try.prog 20 #[.int .i64 74, .int .u64 a, .int .u64 b] w (RkPost w (wAmo 74 a b) true) := by
  have e : wAmo 74 a b = wLow (wAmoV 6 (wSign a 32) (wSign b 32)) 32 := by simp [wAmo, wAmoK]
  rw [e]
  clear e
  have X := Lib.hid (word_sign w a 32)
  have Y := Lib.hid (word_sign w b 32)
  have lx := wSign_lt a 32 ha
  have ly := wSign_lt b 32 hb
  generalize wSign a 32 = x at *
  generalize wSign b 32 = y at *
  clear ha hb
  have Z := Lib.hid (word_low w (wAmoV 6 x y) (wAmoV_lt 6 x y lx ly) 32)
  have hx := wrap64_sg x lx
  have hy := wrap64_sg y ly
  by_cases h : sg y ≤ sg x
  · have F : IntKind.u64.wrap (sg x) = ((wAmoV 6 x y : Nat) : Int) := by
      have e : max (sg x) (sg y) = sg x := by omega
      have e2 : wAmoV 6 x y = un (max (sg x) (sg y)) := by simp [wAmoV]
      rw [e2, e]
      exact u64_un _
    generalize wAmoV 6 x y = g at *
    generalize sg x = s at *
    generalize sg y = t at *
    clear lx ly
    go_enter Try.func20, Try.ntmps20
    go_wp2_with fail
    refine X.out.mono ?_
    rintro e w' ⟨rfl, rfl⟩
    go_wp2_with fail
    refine Y.out.mono ?_
    rintro e w' ⟨rfl, rfl⟩
    go_wp2_with fail
    refine Z.out.mono ?_
    rintro e w' ⟨rfl, rfl⟩
    go_wp2_with fail
    go_ret2
    exact ⟨rfl, 0, rfl⟩
  · have F : IntKind.u64.wrap (sg y) = ((wAmoV 6 x y : Nat) : Int) := by
      have e : max (sg x) (sg y) = sg y := by omega
      have e2 : wAmoV 6 x y = un (max (sg x) (sg y)) := by simp [wAmoV]
      rw [e2, e]
      exact u64_un _
    generalize wAmoV 6 x y = g at *
    generalize sg x = s at *
    generalize sg y = t at *
    clear lx ly
    go_enter Try.func20, Try.ntmps20
    go_wp2_with fail
    refine X.out.mono ?_
    rintro e w' ⟨rfl, rfl⟩
    go_wp2_with fail
    refine Y.out.mono ?_
    rintro e w' ⟨rfl, rfl⟩
    go_wp2_with fail
    refine Z.out.mono ?_
    rintro e w' ⟨rfl, rfl⟩
    go_wp2_with fail
    go_ret2
    exact ⟨rfl, 0, rfl⟩

set_option maxRecDepth 100000 in
set_option maxHeartbeats 800000 in
theorem amo_75 (w : World) (a b : Nat) (ha : a < 18446744073709551616) (hb : b < 18446744073709551616) :
    Calls Try.prog 20 #[.int .i64 75, .int .u64 a, .int .u64 b] w (RkPost w (wAmo 75 a b) true) := by
  have e : wAmo 75 a b = wLow (wAmoV 7 (wLow (wSign a 32) 32) (wLow (wSign b 32) 32)) 32 := by simp [wAmo, wAmoK]
  rw [e]
  clear e
  have X := Lib.hid (word_sign w a 32)
  have Y := Lib.hid (word_sign w b 32)
  have lx := wSign_lt a 32 ha
  have ly := wSign_lt b 32 hb
  generalize wSign a 32 = x at *
  generalize wSign b 32 = y at *
  clear ha hb
  have X2 := Lib.hid (word_low w x lx 32)
  have Y2 := Lib.hid (word_low w y ly 32)
  have lx := wLow_lt x 32 lx
  have ly := wLow_lt y 32 ly
  generalize wLow x 32 = x at *
  generalize wLow y 32 = y at *
  have Z := Lib.hid (word_low w (wAmoV 7 x y) (wAmoV_lt 7 x y lx ly) 32)
  by_cases h : x ≤ y
  · have e : wAmoV 7 x y = x := by simp [wAmoV]; omega
    rw [e] at Z
    rw [e]
    have h' : (x : Int) ≤ (y : Int) := by omega
    clear lx ly e
    go_enter Try.func20, Try.ntmps20
    go_wp2_with fail
    refine X.out.mono ?_
    rintro e w' ⟨rfl, rfl⟩
    go_wp2_with fail
    refine Y.out.mono ?_
    rintro e w' ⟨rfl, rfl⟩
    go_wp2_with fail
    refine X2.out.mono ?_
    rintro e w' ⟨rfl, rfl⟩
    go_wp2_with fail
    refine Y2.out.mono ?_
    rintro e w' ⟨rfl, rfl⟩
    go_wp2_with fail
    refine Z.out.mono ?_
    rintro e w' ⟨rfl, rfl⟩
    go_wp2_with fail
    go_ret2
    exact ⟨rfl, 0, rfl⟩
  · have e : wAmoV 7 x y = y := by simp [wAmoV]; omega
    rw [e] at Z
    rw [e]
    have h' : ¬ (x : Int) ≤ (y : Int) := by omega
    clear lx ly e
    go_enter Try.func20, Try.ntmps20
    go_wp2_with fail
    refine X.out.mono ?_
    rintro e w' ⟨rfl, rfl⟩
    go_wp2_with fail
    refine Y.out.mono ?_
    rintro e w' ⟨rfl, rfl⟩
    go_wp2_with fail
    refine X2.out.mono ?_
    rintro e w' ⟨rfl, rfl⟩
    go_wp2_with fail
    refine Y2.out.mono ?_
    rintro e w' ⟨rfl, rfl⟩
    go_wp2_with fail
    refine Z.out.mono ?_
    rintro e w' ⟨rfl, rfl⟩
    go_wp2_with fail
    go_ret2
    exact ⟨rfl, 0, rfl⟩

set_option maxRecDepth 100000 in
set_option maxHeartbeats 800000 in
theorem amo_76 (w : World) (a b : Nat) (ha : a < 18446744073709551616) (hb : b < 18446744073709551616) :
    Calls Try.prog 20 #[.int .i64 76, .int .u64 a, .int .u64 b] w (RkPost w (wAmo 76 a b) true) := by
  have e : wAmo 76 a b = wLow (wAmoV 8 (wLow (wSign a 32) 32) (wLow (wSign b 32) 32)) 32 := by simp [wAmo, wAmoK]
  rw [e]
  clear e
  have X := Lib.hid (word_sign w a 32)
  have Y := Lib.hid (word_sign w b 32)
  have lx := wSign_lt a 32 ha
  have ly := wSign_lt b 32 hb
  generalize wSign a 32 = x at *
  generalize wSign b 32 = y at *
  clear ha hb
  have X2 := Lib.hid (word_low w x lx 32)
  have Y2 := Lib.hid (word_low w y ly 32)
  have lx := wLow_lt x 32 lx
  have ly := wLow_lt y 32 ly
  generalize wLow x 32 = x at *
  generalize wLow y 32 = y at *
  have Z := Lib.hid (word_low w (wAmoV 8 x y) (wAmoV_lt 8 x y lx ly) 32)
  by_cases h : y ≤ x
  · have e : wAmoV 8 x y = x := by simp [wAmoV]; omega
    rw [e] at Z
    rw [e]
    have h' : (y : Int) ≤ (x : Int) := by omega
    clear lx ly e
    go_enter Try.func20, Try.ntmps20
    go_wp2_with fail
    refine X.out.mono ?_
    rintro e w' ⟨rfl, rfl⟩
    go_wp2_with fail
    refine Y.out.mono ?_
    rintro e w' ⟨rfl, rfl⟩
    go_wp2_with fail
    refine X2.out.mono ?_
    rintro e w' ⟨rfl, rfl⟩
    go_wp2_with fail
    refine Y2.out.mono ?_
    rintro e w' ⟨rfl, rfl⟩
    go_wp2_with fail
    refine Z.out.mono ?_
    rintro e w' ⟨rfl, rfl⟩
    go_wp2_with fail
    go_ret2
    exact ⟨rfl, 0, rfl⟩
  · have e : wAmoV 8 x y = y := by simp [wAmoV]; omega
    rw [e] at Z
    rw [e]
    have h' : ¬ (y : Int) ≤ (x : Int) := by omega
    clear lx ly e
    go_enter Try.func20, Try.ntmps20
    go_wp2_with fail
    refine X.out.mono ?_
    rintro e w' ⟨rfl, rfl⟩
    go_wp2_with fail
    refine Y.out.mono ?_
    rintro e w' ⟨rfl, rfl⟩
    go_wp2_with fail
    refine X2.out.mono ?_
    rintro e w' ⟨rfl, rfl⟩
    go_wp2_with fail
    refine Y2.out.mono ?_
    rintro e w' ⟨rfl, rfl⟩
    go_wp2_with fail
    refine Z.out.mono ?_
    rintro e w' ⟨rfl, rfl⟩
    go_wp2_with fail
    go_ret2
    exact ⟨rfl, 0, rfl⟩

set_option maxRecDepth 100000 in
set_option maxHeartbeats 800000 in
theorem amo_79 (w : World) (a b : Nat) (ha : a < 18446744073709551616) (hb : b < 18446744073709551616) :
    Calls Try.prog 20 #[.int .i64 79, .int .u64 a, .int .u64 b] w (RkPost w (wAmo 79 a b) true) := by
  have e : wAmo 79 a b = wLow (wAmoV 0 (wSign a 64) (wSign b 64)) 64 := by simp [wAmo, wAmoK]
  rw [e]
  clear e
  have X := Lib.hid (word_sign w a 64)
  have Y := Lib.hid (word_sign w b 64)
  have lx := wSign_lt a 64 ha
  have ly := wSign_lt b 64 hb
  generalize wSign a 64 = x at *
  generalize wSign b 64 = y at *
  clear ha hb
  have Z := Lib.hid (word_low w (wAmoV 0 x y) (wAmoV_lt 0 x y lx ly) 64)
  have e : wAmoV 0 x y = y := by simp [wAmoV]
  rw [e] at Z
  rw [e]
  clear lx ly e
  go_enter Try.func20, Try.ntmps20
  go_wp2_with fail
  refine X.out.mono ?_
  rintro e w' ⟨rfl, rfl⟩
  go_wp2_with fail
  refine Y.out.mono ?_
  rintro e w' ⟨rfl, rfl⟩
  go_wp2_with fail
  refine Z.out.mono ?_
  rintro e w' ⟨rfl, rfl⟩
  go_wp2_with fail
  go_ret2
  exact ⟨rfl, 0, rfl⟩

set_option maxRecDepth 100000 in
set_option maxHeartbeats 800000 in
theorem amo_80 (w : World) (a b : Nat) (ha : a < 18446744073709551616) (hb : b < 18446744073709551616) :
    Calls Try.prog 20 #[.int .i64 80, .int .u64 a, .int .u64 b] w (RkPost w (wAmo 80 a b) true) := by
  have e : wAmo 80 a b = wLow (wAmoV 1 (wSign a 64) (wSign b 64)) 64 := by simp [wAmo, wAmoK]
  rw [e]
  clear e
  have X := Lib.hid (word_sign w a 64)
  have Y := Lib.hid (word_sign w b 64)
  have lx := wSign_lt a 64 ha
  have ly := wSign_lt b 64 hb
  generalize wSign a 64 = x at *
  generalize wSign b 64 = y at *
  clear ha hb
  have Z := Lib.hid (word_low w (wAmoV 1 x y) (wAmoV_lt 1 x y lx ly) 64)
  have F : IntKind.u64.wrap ((x : Int) + y) = ((wAmoV 1 x y : Nat) : Int) := u64_un _
  generalize wAmoV 1 x y = g at *
  clear lx ly
  go_enter Try.func20, Try.ntmps20
  go_wp2_with fail
  refine X.out.mono ?_
  rintro e w' ⟨rfl, rfl⟩
  go_wp2_with fail
  refine Y.out.mono ?_
  rintro e w' ⟨rfl, rfl⟩
  go_wp2_with fail
  refine Z.out.mono ?_
  rintro e w' ⟨rfl, rfl⟩
  go_wp2_with fail
  go_ret2
  exact ⟨rfl, 0, rfl⟩

set_option maxRecDepth 100000 in
set_option maxHeartbeats 800000 in
theorem amo_81 (w : World) (a b : Nat) (ha : a < 18446744073709551616) (hb : b < 18446744073709551616) :
    Calls Try.prog 20 #[.int .i64 81, .int .u64 a, .int .u64 b] w (RkPost w (wAmo 81 a b) true) := by
  have e : wAmo 81 a b = wLow (wAmoV 2 (wSign a 64) (wSign b 64)) 64 := by simp [wAmo, wAmoK]
  rw [e]
  clear e
  have X := Lib.hid (word_sign w a 64)
  have Y := Lib.hid (word_sign w b 64)
  have lx := wSign_lt a 64 ha
  have ly := wSign_lt b 64 hb
  generalize wSign a 64 = x at *
  generalize wSign b 64 = y at *
  clear ha hb
  have Z := Lib.hid (word_low w (wAmoV 2 x y) (wAmoV_lt 2 x y lx ly) 64)
  have F : bits BinOp.xor IntKind.u64 (x : Int) y = ((wAmoV 2 x y : Nat) : Int) := u64_xor_nat x y lx ly
  generalize wAmoV 2 x y = g at *
  clear lx ly
  go_enter Try.func20, Try.ntmps20
  go_wp2_with fail
  refine X.out.mono ?_
  rintro e w' ⟨rfl, rfl⟩
  go_wp2_with fail
  refine Y.out.mono ?_
  rintro e w' ⟨rfl, rfl⟩
  go_wp2_with fail
  refine Z.out.mono ?_
  rintro e w' ⟨rfl, rfl⟩
  go_wp2_with fail
  go_ret2
  exact ⟨rfl, 0, rfl⟩

set_option maxRecDepth 100000 in
set_option maxHeartbeats 800000 in
theorem amo_82 (w : World) (a b : Nat) (ha : a < 18446744073709551616) (hb : b < 18446744073709551616) :
    Calls Try.prog 20 #[.int .i64 82, .int .u64 a, .int .u64 b] w (RkPost w (wAmo 82 a b) true) := by
  have e : wAmo 82 a b = wLow (wAmoV 3 (wSign a 64) (wSign b 64)) 64 := by simp [wAmo, wAmoK]
  rw [e]
  clear e
  have X := Lib.hid (word_sign w a 64)
  have Y := Lib.hid (word_sign w b 64)
  have lx := wSign_lt a 64 ha
  have ly := wSign_lt b 64 hb
  generalize wSign a 64 = x at *
  generalize wSign b 64 = y at *
  clear ha hb
  have Z := Lib.hid (word_low w (wAmoV 3 x y) (wAmoV_lt 3 x y lx ly) 64)
  have F : bits BinOp.and IntKind.u64 (x : Int) y = ((wAmoV 3 x y : Nat) : Int) := u64_and_nat x y lx ly
  generalize wAmoV 3 x y = g at *
  clear lx ly
  go_enter Try.func20, Try.ntmps20
  go_wp2_with fail
  refine X.out.mono ?_
  rintro e w' ⟨rfl, rfl⟩
  go_wp2_with fail
  refine Y.out.mono ?_
  rintro e w' ⟨rfl, rfl⟩
  go_wp2_with fail
  refine Z.out.mono ?_
  rintro e w' ⟨rfl, rfl⟩
  go_wp2_with fail
  go_ret2
  exact ⟨rfl, 0, rfl⟩

set_option maxRecDepth 100000 in
set_option maxHeartbeats 800000 in
theorem amo_83 (w : World) (a b : Nat) (ha : a < 18446744073709551616) (hb : b < 18446744073709551616) :
    Calls Try.prog 20 #[.int .i64 83, .int .u64 a, .int .u64 b] w (RkPost w (wAmo 83 a b) true) := by
  have e : wAmo 83 a b = wLow (wAmoV 4 (wSign a 64) (wSign b 64)) 64 := by simp [wAmo, wAmoK]
  rw [e]
  clear e
  have X := Lib.hid (word_sign w a 64)
  have Y := Lib.hid (word_sign w b 64)
  have lx := wSign_lt a 64 ha
  have ly := wSign_lt b 64 hb
  generalize wSign a 64 = x at *
  generalize wSign b 64 = y at *
  clear ha hb
  have Z := Lib.hid (word_low w (wAmoV 4 x y) (wAmoV_lt 4 x y lx ly) 64)
  have F : bits BinOp.or IntKind.u64 (x : Int) y = ((wAmoV 4 x y : Nat) : Int) := u64_or_nat x y lx ly
  generalize wAmoV 4 x y = g at *
  clear lx ly
  go_enter Try.func20, Try.ntmps20
  go_wp2_with fail
  refine X.out.mono ?_
  rintro e w' ⟨rfl, rfl⟩
  go_wp2_with fail
  refine Y.out.mono ?_
  rintro e w' ⟨rfl, rfl⟩
  go_wp2_with fail
  refine Z.out.mono ?_
  rintro e w' ⟨rfl, rfl⟩
  go_wp2_with fail
  go_ret2
  exact ⟨rfl, 0, rfl⟩

set_option maxRecDepth 100000 in
set_option maxHeartbeats 800000 in
theorem amo_84 (w : World) (a b : Nat) (ha : a < 18446744073709551616) (hb : b < 18446744073709551616) :
    Calls Try.prog 20 #[.int .i64 84, .int .u64 a, .int .u64 b] w (RkPost w (wAmo 84 a b) true) := by
  have e : wAmo 84 a b = wLow (wAmoV 5 (wSign a 64) (wSign b 64)) 64 := by simp [wAmo, wAmoK]
  rw [e]
  clear e
  have X := Lib.hid (word_sign w a 64)
  have Y := Lib.hid (word_sign w b 64)
  have lx := wSign_lt a 64 ha
  have ly := wSign_lt b 64 hb
  generalize wSign a 64 = x at *
  generalize wSign b 64 = y at *
  clear ha hb
  have Z := Lib.hid (word_low w (wAmoV 5 x y) (wAmoV_lt 5 x y lx ly) 64)
  have hx := wrap64_sg x lx
  have hy := wrap64_sg y ly
  by_cases h : sg x ≤ sg y
  · have F : IntKind.u64.wrap (sg x) = ((wAmoV 5 x y : Nat) : Int) := by
      have e : min (sg x) (sg y) = sg x := by omega
      have e2 : wAmoV 5 x y = un (min (sg x) (sg y)) := by simp [wAmoV]
      rw [e2, e]
      exact u64_un _
    generalize wAmoV 5 x y = g at *
    generalize sg x = s at *
    generalize sg y = t at *
    clear lx ly
    go_enter Try.func20, Try.ntmps20
    go_wp2_with fail
    refine X.out.mono ?_
    rintro e w' ⟨rfl, rfl⟩
    go_wp2_with fail
    refine Y.out.mono ?_
    rintro e w' ⟨rfl, rfl⟩
    go_wp2_with fail
    refine Z.out.mono ?_
    rintro e w' ⟨rfl, rfl⟩
    go_wp2_with fail
    go_ret2
    exact ⟨rfl, 0, rfl⟩
  · have F : IntKind.u64.wrap (sg y) = ((wAmoV 5 x y : Nat) : Int) := by
      have e : min (sg x) (sg y) = sg y := by omega
      have e2 : wAmoV 5 x y = un (min (sg x) (sg y)) := by simp [wAmoV]
      rw [e2, e]
      exact u64_un _
    generalize wAmoV 5 x y = g at *
    generalize sg x = s at *
    generalize sg y = t at *
    clear lx ly
    go_enter Try.func20, Try.ntmps20
    go_wp2_with fail
    refine X.out.mono ?_
    rintro e w' ⟨rfl, rfl⟩
    go_wp2_with fail
    refine Y.out.mono ?_
    rintro e w' ⟨rfl, rfl⟩
    go_wp2_with fail
    refine Z.out.mono ?_
    rintro e w' ⟨rfl, rfl⟩
    go_wp2_with fail
    go_ret2
    exact ⟨rfl, 0, rfl⟩

set_option maxRecDepth 100000 in
set_option maxHeartbeats 800000 in
theorem amo_85 (w : World) (a b : Nat) (ha : a < 18446744073709551616) (hb : b < 18446744073709551616) :
    Calls Try.prog 20 #[.int .i64 85, .int .u64 a, .int .u64 b] w (RkPost w (wAmo 85 a b) true) := by
  have e : wAmo 85 a b = wLow (wAmoV 6 (wSign a 64) (wSign b 64)) 64 := by simp [wAmo, wAmoK]
  rw [e]
  clear e
  have X := Lib.hid (word_sign w a 64)
  have Y := Lib.hid (word_sign w b 64)
  have lx := wSign_lt a 64 ha
  have ly := wSign_lt b 64 hb
  generalize wSign a 64 = x at *
  generalize wSign b 64 = y at *
  clear ha hb
  have Z := Lib.hid (word_low w (wAmoV 6 x y) (wAmoV_lt 6 x y lx ly) 64)
  have hx := wrap64_sg x lx
  have hy := wrap64_sg y ly
  by_cases h : sg y ≤ sg x
  · have F : IntKind.u64.wrap (sg x) = ((wAmoV 6 x y : Nat) : Int) := by
      have e : max (sg x) (sg y) = sg x := by omega
      have e2 : wAmoV 6 x y = un (max (sg x) (sg y)) := by simp [wAmoV]
      rw [e2, e]
      exact u64_un _
    generalize wAmoV 6 x y = g at *
    generalize sg x = s at *
    generalize sg y = t at *
    clear lx ly
    go_enter Try.func20, Try.ntmps20
    go_wp2_with fail
    refine X.out.mono ?_
    rintro e w' ⟨rfl, rfl⟩
    go_wp2_with fail
    refine Y.out.mono ?_
    rintro e w' ⟨rfl, rfl⟩
    go_wp2_with fail
    refine Z.out.mono ?_
    rintro e w' ⟨rfl, rfl⟩
    go_wp2_with fail
    go_ret2
    exact ⟨rfl, 0, rfl⟩
  · have F : IntKind.u64.wrap (sg y) = ((wAmoV 6 x y : Nat) : Int) := by
      have e : max (sg x) (sg y) = sg y := by omega
      have e2 : wAmoV 6 x y = un (max (sg x) (sg y)) := by simp [wAmoV]
      rw [e2, e]
      exact u64_un _
    generalize wAmoV 6 x y = g at *
    generalize sg x = s at *
    generalize sg y = t at *
    clear lx ly
    go_enter Try.func20, Try.ntmps20
    go_wp2_with fail
    refine X.out.mono ?_
    rintro e w' ⟨rfl, rfl⟩
    go_wp2_with fail
    refine Y.out.mono ?_
    rintro e w' ⟨rfl, rfl⟩
    go_wp2_with fail
    refine Z.out.mono ?_
    rintro e w' ⟨rfl, rfl⟩
    go_wp2_with fail
    go_ret2
    exact ⟨rfl, 0, rfl⟩

set_option maxRecDepth 100000 in
set_option maxHeartbeats 800000 in
theorem amo_86 (w : World) (a b : Nat) (ha : a < 18446744073709551616) (hb : b < 18446744073709551616) :
    Calls Try.prog 20 #[.int .i64 86, .int .u64 a, .int .u64 b] w (RkPost w (wAmo 86 a b) true) := by
  have e : wAmo 86 a b = wLow (wAmoV 7 (wLow (wSign a 64) 64) (wLow (wSign b 64) 64)) 64 := by simp [wAmo, wAmoK]
  rw [e]
  clear e
  have X := Lib.hid (word_sign w a 64)
  have Y := Lib.hid (word_sign w b 64)
  have lx := wSign_lt a 64 ha
  have ly := wSign_lt b 64 hb
  generalize wSign a 64 = x at *
  generalize wSign b 64 = y at *
  clear ha hb
  have X2 := Lib.hid (word_low w x lx 64)
  have Y2 := Lib.hid (word_low w y ly 64)
  have lx := wLow_lt x 64 lx
  have ly := wLow_lt y 64 ly
  generalize wLow x 64 = x at *
  generalize wLow y 64 = y at *
  have Z := Lib.hid (word_low w (wAmoV 7 x y) (wAmoV_lt 7 x y lx ly) 64)
  by_cases h : x ≤ y
  · have e : wAmoV 7 x y = x := by simp [wAmoV]; omega
    rw [e] at Z
    rw [e]
    have h' : (x : Int) ≤ (y : Int) := by omega
    clear lx ly e
    go_enter Try.func20, Try.ntmps20
    go_wp2_with fail
    refine X.out.mono ?_
    rintro e w' ⟨rfl, rfl⟩
    go_wp2_with fail
    refine Y.out.mono ?_
    rintro e w' ⟨rfl, rfl⟩
    go_wp2_with fail
    refine X2.out.mono ?_
    rintro e w' ⟨rfl, rfl⟩
    go_wp2_with fail
    refine Y2.out.mono ?_
    rintro e w' ⟨rfl, rfl⟩
    go_wp2_with fail
    refine Z.out.mono ?_
    rintro e w' ⟨rfl, rfl⟩
    go_wp2_with fail
    go_ret2
    exact ⟨rfl, 0, rfl⟩
  · have e : wAmoV 7 x y = y := by simp [wAmoV]; omega
    rw [e] at Z
    rw [e]
    have h' : ¬ (x : Int) ≤ (y : Int) := by omega
    clear lx ly e
    go_enter Try.func20, Try.ntmps20
    go_wp2_with fail
    refine X.out.mono ?_
    rintro e w' ⟨rfl, rfl⟩
    go_wp2_with fail
    refine Y.out.mono ?_
    rintro e w' ⟨rfl, rfl⟩
    go_wp2_with fail
    refine X2.out.mono ?_
    rintro e w' ⟨rfl, rfl⟩
    go_wp2_with fail
    refine Y2.out.mono ?_
    rintro e w' ⟨rfl, rfl⟩
    go_wp2_with fail
    refine Z.out.mono ?_
    rintro e w' ⟨rfl, rfl⟩
    go_wp2_with fail
    go_ret2
    exact ⟨rfl, 0, rfl⟩

set_option maxRecDepth 100000 in
set_option maxHeartbeats 800000 in
theorem amo_87 (w : World) (a b : Nat) (ha : a < 18446744073709551616) (hb : b < 18446744073709551616) :
    Calls Try.prog 20 #[.int .i64 87, .int .u64 a, .int .u64 b] w (RkPost w (wAmo 87 a b) true) := by
  have e : wAmo 87 a b = wLow (wAmoV 8 (wLow (wSign a 64) 64) (wLow (wSign b 64) 64)) 64 := by simp [wAmo, wAmoK]
  rw [e]
  clear e
  have X := Lib.hid (word_sign w a 64)
  have Y := Lib.hid (word_sign w b 64)
  have lx := wSign_lt a 64 ha
  have ly := wSign_lt b 64 hb
  generalize wSign a 64 = x at *
  generalize wSign b 64 = y at *
  clear ha hb
  have X2 := Lib.hid (word_low w x lx 64)
  have Y2 := Lib.hid (word_low w y ly 64)
  have lx := wLow_lt x 64 lx
  have ly := wLow_lt y 64 ly
  generalize wLow x 64 = x at *
  generalize wLow y 64 = y at *
  have Z := Lib.hid (word_low w (wAmoV 8 x y) (wAmoV_lt 8 x y lx ly) 64)
  by_cases h : y ≤ x
  · have e : wAmoV 8 x y = x := by simp [wAmoV]; omega
    rw [e] at Z
    rw [e]
    have h' : (y : Int) ≤ (x : Int) := by omega
    clear lx ly e
    go_enter Try.func20, Try.ntmps20
    go_wp2_with fail
    refine X.out.mono ?_
    rintro e w' ⟨rfl, rfl⟩
    go_wp2_with fail
    refine Y.out.mono ?_
    rintro e w' ⟨rfl, rfl⟩
    go_wp2_with fail
    refine X2.out.mono ?_
    rintro e w' ⟨rfl, rfl⟩
    go_wp2_with fail
    refine Y2.out.mono ?_
    rintro e w' ⟨rfl, rfl⟩
    go_wp2_with fail
    refine Z.out.mono ?_
    rintro e w' ⟨rfl, rfl⟩
    go_wp2_with fail
    go_ret2
    exact ⟨rfl, 0, rfl⟩
  · have e : wAmoV 8 x y = y := by simp [wAmoV]; omega
    rw [e] at Z
    rw [e]
    have h' : ¬ (y : Int) ≤ (x : Int) := by omega
    clear lx ly e
    go_enter Try.func20, Try.ntmps20
    go_wp2_with fail
    refine X.out.mono ?_
    rintro e w' ⟨rfl, rfl⟩
    go_wp2_with fail
    refine Y.out.mono ?_
    rintro e w' ⟨rfl, rfl⟩
    go_wp2_with fail
    refine X2.out.mono ?_
    rintro e w' ⟨rfl, rfl⟩
    go_wp2_with fail
    refine Y2.out.mono ?_
    rintro e w' ⟨rfl, rfl⟩
    go_wp2_with fail
    refine Z.out.mono ?_
    rintro e w' ⟨rfl, rfl⟩
    go_wp2_with fail
    go_ret2
    exact ⟨rfl, 0, rfl⟩

def wAmoOk (op : Int) : Bool := (decide (68 ≤ op) && decide (op ≤ 76)) || (decide (79 ≤ op) && decide (op ≤ 87))
def wAmoR (op : Int) (a b : Nat) : Nat := if wAmoOk op then wAmo op a b else 0

theorem amo_all (w : World) (op : Int) (a b : Nat) (ha : a < 18446744073709551616) (hb : b < 18446744073709551616) (h2 : op = 68 ∨ op = 69 ∨ op = 70 ∨ op = 71 ∨ op = 72 ∨ op = 73 ∨ op = 74 ∨ op = 75 ∨ op = 76 ∨ op = 79 ∨ op = 80 ∨ op = 81 ∨ op = 82 ∨ op = 83 ∨ op = 84 ∨ op = 85 ∨ op = 86 ∨ op = 87) :
    Calls Try.prog 20 #[.int .i64 op, .int .u64 a, .int .u64 b] w (RkPost w (wAmo op a b) true) := by
  rcases h2 with rfl | rfl | rfl | rfl | rfl | rfl | rfl | rfl | rfl | rfl | rfl | rfl | rfl | rfl | rfl | rfl | rfl | rfl
  · exact amo_68 w a b ha hb
  · exact amo_69 w a b ha hb
  · exact amo_70 w a b ha hb
  · exact amo_71 w a b ha hb
  · exact amo_72 w a b ha hb
  · exact amo_73 w a b ha hb
  · exact amo_74 w a b ha hb
  · exact amo_75 w a b ha hb
  · exact amo_76 w a b ha hb
  · exact amo_79 w a b ha hb
  · exact amo_80 w a b ha hb
  · exact amo_81 w a b ha hb
  · exact amo_82 w a b ha hb
  · exact amo_83 w a b ha hb
  · exact amo_84 w a b ha hb
  · exact amo_85 w a b ha hb
  · exact amo_86 w a b ha hb
  · exact amo_87 w a b ha hb

theorem amo_ops (op : Int) (h : wAmoOk op = true) : op = 68 ∨ op = 69 ∨ op = 70 ∨ op = 71 ∨ op = 72 ∨ op = 73 ∨ op = 74 ∨ op = 75 ∨ op = 76 ∨ op = 79 ∨ op = 80 ∨ op = 81 ∨ op = 82 ∨ op = 83 ∨ op = 84 ∨ op = 85 ∨ op = 86 ∨ op = 87 := by
  simp only [wAmoOk, Bool.or_eq_true, Bool.and_eq_true, decide_eq_true_eq] at h
  omega

theorem word_amo (w : World) (op : Int) (a b : Nat) (hw : (Lit.int .i64 op).wf = true) (ha : a < 18446744073709551616) (hb : b < 18446744073709551616) :
    Calls Try.prog 20 #[.int .i64 op, .int .u64 a, .int .u64 b] w (RkPost w (wAmoR op a b) (wAmoOk op)) := by
  by_cases h : wAmoOk op = true
  · have e : wAmoR op a b = wAmo op a b := by simp [wAmoR, h]
    rw [e, h]
    exact amo_all w op a b ha hb (amo_ops op h)
  · have e : wAmoOk op = false := by simpa using h
    have e2 : wAmoR op a b = 0 := by simp [wAmoR, e]
    rw [e, e2]
    refine amo_no w op a b hw ?_
    simp [wAmoOk] at e
    omega
end Go.Proofs.Ytcpmjgjefhpgkaa
