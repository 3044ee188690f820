/-
  word.Reckon by its contract, at each opcode, and for every number.
-/
import Derived.Test.YtcpmjgjefhpgkaaWdWide
namespace Go.Proofs.Ytcpmjgjefhpgkaa
open Go.RowKit

theorem mask31 (b : Nat) (hb : b < 18446744073709551616) : bits BinOp.and IntKind.u64 (b : Int) 31 = ((b % 32 : Nat) : Int) := by
  have := u64_and_nat b 31 hb (by omega)
  rw [show ((31 : Nat) : Int) = 31 from rfl] at this
  rw [this, nat_mask5]

/-- the opcode without W -/
def wNar (op : Int) : Int := if op = 45 then 35 else if op = 46 then 36 else if op = 47 then 37 else if op = 48 then 41 else if op = 49 then 42 else if op = 58 then 50 else if op = 59 then 54 else if op = 60 then 55 else if op = 61 then 56 else 57

/-- what an instruction reckons -/
def wRk (op : Int) (a b : Nat) : Nat :=
  if op = 47 ∨ op = 49 then wSign (wWide (wNar op) (wSign a 32) (wSign (b % 32) 32)) 32
  else if op = 48 then wSign (wWide 41 (wLow (wSign a 32) 32) (wLow (wSign (b % 32) 32) 32)) 32
  else if op = 60 ∨ op = 62 then wSign (wWide (wNar op) (wLow (wSign a 32) 32) (wLow (wSign b 32) 32)) 32
  else if op = 45 ∨ op = 46 ∨ op = 58 ∨ op = 59 ∨ op = 61 then wSign (wWide (wNar op) (wSign a 32) (wSign b 32)) 32
  else wWide op a b

def RkPost (w : World) (r : Nat) (ok : Bool) (e : Ending) (w' : World) : Prop := e = .returned (.tuple #[.int .u64 (r : Int), .bool ok]) ∧ ∃ n, w' = w.drewN n
theorem rk_mk {w : World} {r : Nat} {n : Nat} : RkPost w r true (.returned (.tuple #[.int .u64 (r : Int), .bool true])) (w.drewN n) := ⟨rfl, n, rfl⟩

theorem reckon_no (w : World) (op : Int) (a b : Nat) (h : op < 35 ∨ 62 < op) :
    Calls Try.prog 18 #[.int .i64 op, .int .u64 a, .int .u64 b] w (RkPost w 0 false) := by
  by_cases h1 : op < 35
  · clear h
    go_enter Try.func18, Try.ntmps18
    go_wp2_with fail
    go_ret2
    exact ⟨rfl, 0, rfl⟩
  · have h2 : 62 < op := by omega
    clear h
    go_enter Try.func18, Try.ntmps18
    go_wp2_with fail
    go_ret2
    exact ⟨rfl, 0, rfl⟩

set_option maxHeartbeats 800000 in
theorem reckon_35 (w : World) (a b : Nat) (ha : a < 18446744073709551616) (hb : b < 18446744073709551616) :
    Calls Try.prog 18 #[.int .i64 35, .int .u64 a, .int .u64 b] w (RkPost w (wRk 35 a b) true) := by
  have e : wRk 35 a b = wWide 35 a b := by simp [wRk]
  rw [e]
  have K := Lib.hid (wide_35 w a b ha hb)
  generalize wWide 35 a b = g at *
  clear ha hb e
  go_enter Try.func18, Try.ntmps18
  go_wp2_with (go_at_call 27; go_in)
  refine K.out.mono ?_
  rintro e w' ⟨rfl, n, rfl⟩
  go_wp2_with fail
  go_ret2
  exact rk_mk

set_option maxHeartbeats 800000 in
theorem reckon_36 (w : World) (a b : Nat) (ha : a < 18446744073709551616) (hb : b < 18446744073709551616) :
    Calls Try.prog 18 #[.int .i64 36, .int .u64 a, .int .u64 b] w (RkPost w (wRk 36 a b) true) := by
  have e : wRk 36 a b = wWide 36 a b := by simp [wRk]
  rw [e]
  have K := Lib.hid (wide_36 w a b ha hb)
  generalize wWide 36 a b = g at *
  clear ha hb e
  go_enter Try.func18, Try.ntmps18
  go_wp2_with (go_at_call 27; go_in)
  refine K.out.mono ?_
  rintro e w' ⟨rfl, n, rfl⟩
  go_wp2_with fail
  go_ret2
  exact rk_mk

set_option maxHeartbeats 800000 in
theorem reckon_37 (w : World) (a b : Nat) (ha : a < 18446744073709551616) (hb : b < 18446744073709551616) :
    Calls Try.prog 18 #[.int .i64 37, .int .u64 a, .int .u64 b] w (RkPost w (wRk 37 a b) true) := by
  have e : wRk 37 a b = wWide 37 a b := by simp [wRk]
  rw [e]
  have K := Lib.hid (wide_37 w a b ha hb)
  generalize wWide 37 a b = g at *
  clear ha hb e
  go_enter Try.func18, Try.ntmps18
  go_wp2_with (go_at_call 27; go_in)
  refine K.out.mono ?_
  rintro e w' ⟨rfl, n, rfl⟩
  go_wp2_with fail
  go_ret2
  exact rk_mk

set_option maxHeartbeats 800000 in
theorem reckon_38 (w : World) (a b : Nat) (ha : a < 18446744073709551616) (hb : b < 18446744073709551616) :
    Calls Try.prog 18 #[.int .i64 38, .int .u64 a, .int .u64 b] w (RkPost w (wRk 38 a b) true) := by
  have e : wRk 38 a b = wWide 38 a b := by simp [wRk]
  rw [e]
  have K := Lib.hid (wide_38 w a b ha hb)
  generalize wWide 38 a b = g at *
  clear ha hb e
  go_enter Try.func18, Try.ntmps18
  go_wp2_with (go_at_call 27; go_in)
  refine K.out.mono ?_
  rintro e w' ⟨rfl, n, rfl⟩
  go_wp2_with fail
  go_ret2
  exact rk_mk

set_option maxHeartbeats 800000 in
theorem reckon_39 (w : World) (a b : Nat) (ha : a < 18446744073709551616) (hb : b < 18446744073709551616) :
    Calls Try.prog 18 #[.int .i64 39, .int .u64 a, .int .u64 b] w (RkPost w (wRk 39 a b) true) := by
  have e : wRk 39 a b = wWide 39 a b := by simp [wRk]
  rw [e]
  have K := Lib.hid (wide_39 w a b ha hb)
  generalize wWide 39 a b = g at *
  clear ha hb e
  go_enter Try.func18, Try.ntmps18
  go_wp2_with (go_at_call 27; go_in)
  refine K.out.mono ?_
  rintro e w' ⟨rfl, n, rfl⟩
  go_wp2_with fail
  go_ret2
  exact rk_mk

set_option maxHeartbeats 800000 in
theorem reckon_40 (w : World) (a b : Nat) (ha : a < 18446744073709551616) (hb : b < 18446744073709551616) :
    Calls Try.prog 18 #[.int .i64 40, .int .u64 a, .int .u64 b] w (RkPost w (wRk 40 a b) true) := by
  have e : wRk 40 a b = wWide 40 a b := by simp [wRk]
  rw [e]
  have K := Lib.hid (wide_40 w a b ha hb)
  generalize wWide 40 a b = g at *
  clear ha hb e
  go_enter Try.func18, Try.ntmps18
  go_wp2_with (go_at_call 27; go_in)
  refine K.out.mono ?_
  rintro e w' ⟨rfl, n, rfl⟩
  go_wp2_with fail
  go_ret2
  exact rk_mk

set_option maxHeartbeats 800000 in
theorem reckon_41 (w : World) (a b : Nat) (ha : a < 18446744073709551616) (hb : b < 18446744073709551616) :
    Calls Try.prog 18 #[.int .i64 41, .int .u64 a, .int .u64 b] w (RkPost w (wRk 41 a b) true) := by
  have e : wRk 41 a b = wWide 41 a b := by simp [wRk]
  rw [e]
  have K := Lib.hid (wide_41 w a b ha hb)
  generalize wWide 41 a b = g at *
  clear ha hb e
  go_enter Try.func18, Try.ntmps18
  go_wp2_with (go_at_call 27; go_in)
  refine K.out.mono ?_
  rintro e w' ⟨rfl, n, rfl⟩
  go_wp2_with fail
  go_ret2
  exact rk_mk

set_option maxHeartbeats 800000 in
theorem reckon_42 (w : World) (a b : Nat) (ha : a < 18446744073709551616) (hb : b < 18446744073709551616) :
    Calls Try.prog 18 #[.int .i64 42, .int .u64 a, .int .u64 b] w (RkPost w (wRk 42 a b) true) := by
  have e : wRk 42 a b = wWide 42 a b := by simp [wRk]
  rw [e]
  have K := Lib.hid (wide_42 w a b ha hb)
  generalize wWide 42 a b = g at *
  clear ha hb e
  go_enter Try.func18, Try.ntmps18
  go_wp2_with (go_at_call 27; go_in)
  refine K.out.mono ?_
  rintro e w' ⟨rfl, n, rfl⟩
  go_wp2_with fail
  go_ret2
  exact rk_mk

set_option maxHeartbeats 800000 in
theorem reckon_43 (w : World) (a b : Nat) (ha : a < 18446744073709551616) (hb : b < 18446744073709551616) :
    Calls Try.prog 18 #[.int .i64 43, .int .u64 a, .int .u64 b] w (RkPost w (wRk 43 a b) true) := by
  have e : wRk 43 a b = wWide 43 a b := by simp [wRk]
  rw [e]
  have K := Lib.hid (wide_43 w a b ha hb)
  generalize wWide 43 a b = g at *
  clear ha hb e
  go_enter Try.func18, Try.ntmps18
  go_wp2_with (go_at_call 27; go_in)
  refine K.out.mono ?_
  rintro e w' ⟨rfl, n, rfl⟩
  go_wp2_with fail
  go_ret2
  exact rk_mk

set_option maxHeartbeats 800000 in
theorem reckon_44 (w : World) (a b : Nat) (ha : a < 18446744073709551616) (hb : b < 18446744073709551616) :
    Calls Try.prog 18 #[.int .i64 44, .int .u64 a, .int .u64 b] w (RkPost w (wRk 44 a b) true) := by
  have e : wRk 44 a b = wWide 44 a b := by simp [wRk]
  rw [e]
  have K := Lib.hid (wide_44 w a b ha hb)
  generalize wWide 44 a b = g at *
  clear ha hb e
  go_enter Try.func18, Try.ntmps18
  go_wp2_with (go_at_call 27; go_in)
  refine K.out.mono ?_
  rintro e w' ⟨rfl, n, rfl⟩
  go_wp2_with fail
  go_ret2
  exact rk_mk

set_option maxHeartbeats 800000 in
theorem reckon_50 (w : World) (a b : Nat) (ha : a < 18446744073709551616) (hb : b < 18446744073709551616) :
    Calls Try.prog 18 #[.int .i64 50, .int .u64 a, .int .u64 b] w (RkPost w (wRk 50 a b) true) := by
  have e : wRk 50 a b = wWide 50 a b := by simp [wRk]
  rw [e]
  have K := Lib.hid (wide_50 w a b ha hb)
  generalize wWide 50 a b = g at *
  clear ha hb e
  go_enter Try.func18, Try.ntmps18
  go_wp2_with (go_at_call 27; go_in)
  refine K.out.mono ?_
  rintro e w' ⟨rfl, n, rfl⟩
  go_wp2_with fail
  go_ret2
  exact rk_mk

set_option maxHeartbeats 800000 in
theorem reckon_51 (w : World) (a b : Nat) (ha : a < 18446744073709551616) (hb : b < 18446744073709551616) :
    Calls Try.prog 18 #[.int .i64 51, .int .u64 a, .int .u64 b] w (RkPost w (wRk 51 a b) true) := by
  have e : wRk 51 a b = wWide 51 a b := by simp [wRk]
  rw [e]
  have K := Lib.hid (wide_51 w a b ha hb)
  generalize wWide 51 a b = g at *
  clear ha hb e
  go_enter Try.func18, Try.ntmps18
  go_wp2_with (go_at_call 27; go_in)
  refine K.out.mono ?_
  rintro e w' ⟨rfl, n, rfl⟩
  go_wp2_with fail
  go_ret2
  exact rk_mk

set_option maxHeartbeats 800000 in
theorem reckon_52 (w : World) (a b : Nat) (ha : a < 18446744073709551616) (hb : b < 18446744073709551616) :
    Calls Try.prog 18 #[.int .i64 52, .int .u64 a, .int .u64 b] w (RkPost w (wRk 52 a b) true) := by
  have e : wRk 52 a b = wWide 52 a b := by simp [wRk]
  rw [e]
  have K := Lib.hid (wide_52 w a b ha hb)
  generalize wWide 52 a b = g at *
  clear ha hb e
  go_enter Try.func18, Try.ntmps18
  go_wp2_with (go_at_call 27; go_in)
  refine K.out.mono ?_
  rintro e w' ⟨rfl, n, rfl⟩
  go_wp2_with fail
  go_ret2
  exact rk_mk

set_option maxHeartbeats 800000 in
theorem reckon_53 (w : World) (a b : Nat) (ha : a < 18446744073709551616) (hb : b < 18446744073709551616) :
    Calls Try.prog 18 #[.int .i64 53, .int .u64 a, .int .u64 b] w (RkPost w (wRk 53 a b) true) := by
  have e : wRk 53 a b = wWide 53 a b := by simp [wRk]
  rw [e]
  have K := Lib.hid (wide_53 w a b ha hb)
  generalize wWide 53 a b = g at *
  clear ha hb e
  go_enter Try.func18, Try.ntmps18
  go_wp2_with (go_at_call 27; go_in)
  refine K.out.mono ?_
  rintro e w' ⟨rfl, n, rfl⟩
  go_wp2_with fail
  go_ret2
  exact rk_mk

set_option maxHeartbeats 800000 in
theorem reckon_54 (w : World) (a b : Nat) (ha : a < 18446744073709551616) (hb : b < 18446744073709551616) :
    Calls Try.prog 18 #[.int .i64 54, .int .u64 a, .int .u64 b] w (RkPost w (wRk 54 a b) true) := by
  have e : wRk 54 a b = wWide 54 a b := by simp [wRk]
  rw [e]
  have K := Lib.hid (wide_54 w a b ha hb)
  generalize wWide 54 a b = g at *
  clear ha hb e
  go_enter Try.func18, Try.ntmps18
  go_wp2_with (go_at_call 27; go_in)
  refine K.out.mono ?_
  rintro e w' ⟨rfl, n, rfl⟩
  go_wp2_with fail
  go_ret2
  exact rk_mk

set_option maxHeartbeats 800000 in
theorem reckon_55 (w : World) (a b : Nat) (ha : a < 18446744073709551616) (hb : b < 18446744073709551616) :
    Calls Try.prog 18 #[.int .i64 55, .int .u64 a, .int .u64 b] w (RkPost w (wRk 55 a b) true) := by
  have e : wRk 55 a b = wWide 55 a b := by simp [wRk]
  rw [e]
  have K := Lib.hid (wide_55 w a b ha hb)
  generalize wWide 55 a b = g at *
  clear ha hb e
  go_enter Try.func18, Try.ntmps18
  go_wp2_with (go_at_call 27; go_in)
  refine K.out.mono ?_
  rintro e w' ⟨rfl, n, rfl⟩
  go_wp2_with fail
  go_ret2
  exact rk_mk

set_option maxHeartbeats 800000 in
theorem reckon_56 (w : World) (a b : Nat) (ha : a < 18446744073709551616) (hb : b < 18446744073709551616) :
    Calls Try.prog 18 #[.int .i64 56, .int .u64 a, .int .u64 b] w (RkPost w (wRk 56 a b) true) := by
  have e : wRk 56 a b = wWide 56 a b := by simp [wRk]
  rw [e]
  have K := Lib.hid (wide_56 w a b ha hb)
  generalize wWide 56 a b = g at *
  clear ha hb e
  go_enter Try.func18, Try.ntmps18
  go_wp2_with (go_at_call 27; go_in)
  refine K.out.mono ?_
  rintro e w' ⟨rfl, n, rfl⟩
  go_wp2_with fail
  go_ret2
  exact rk_mk

set_option maxHeartbeats 800000 in
theorem reckon_57 (w : World) (a b : Nat) (ha : a < 18446744073709551616) (hb : b < 18446744073709551616) :
    Calls Try.prog 18 #[.int .i64 57, .int .u64 a, .int .u64 b] w (RkPost w (wRk 57 a b) true) := by
  have e : wRk 57 a b = wWide 57 a b := by simp [wRk]
  rw [e]
  have K := Lib.hid (wide_57 w a b ha hb)
  generalize wWide 57 a b = g at *
  clear ha hb e
  go_enter Try.func18, Try.ntmps18
  go_wp2_with (go_at_call 27; go_in)
  refine K.out.mono ?_
  rintro e w' ⟨rfl, n, rfl⟩
  go_wp2_with fail
  go_ret2
  exact rk_mk

set_option maxHeartbeats 800000 in
theorem reckon_45 (w : World) (a b : Nat) (ha : a < 18446744073709551616) (hb : b < 18446744073709551616) :
    Calls Try.prog 18 #[.int .i64 45, .int .u64 a, .int .u64 b] w (RkPost w (wRk 45 a b) true) := by
  have e : wRk 45 a b = wSign (wWide 35 (wSign a 32) (wSign b 32)) 32 := by simp [wRk, wNar]
  rw [e]
  clear e
  have X := Lib.hid (word_sign w a 32)
  have Y := Lib.hid (word_sign w b 32)
  have lx := wSign_lt a 32 ha
  have ly := wSign_lt b 32 hb
  generalize wSign a 32 = x at *
  generalize wSign b 32 = y at *
  clear ha hb
  have K := Lib.hid (wide_35 w x y lx ly)
  generalize wWide 35 x y = g at *
  clear lx ly
  go_enter Try.func18, Try.ntmps18
  go_wp2_with (go_at_call 27; go_in)
  refine X.out.mono ?_
  rintro e w' ⟨rfl, rfl⟩
  go_wp2_with fail
  refine Y.out.mono ?_
  rintro e w' ⟨rfl, rfl⟩
  go_wp2_with fail
  refine K.out.mono ?_
  rintro e w' ⟨rfl, n, rfl⟩
  go_wp2_with fail
  refine (word_sign (w.drewN n) g 32).mono ?_
  rintro e w' ⟨rfl, rfl⟩
  go_wp2_with fail
  go_ret2
  exact rk_mk

set_option maxHeartbeats 800000 in
theorem reckon_46 (w : World) (a b : Nat) (ha : a < 18446744073709551616) (hb : b < 18446744073709551616) :
    Calls Try.prog 18 #[.int .i64 46, .int .u64 a, .int .u64 b] w (RkPost w (wRk 46 a b) true) := by
  have e : wRk 46 a b = wSign (wWide 36 (wSign a 32) (wSign b 32)) 32 := by simp [wRk, wNar]
  rw [e]
  clear e
  have X := Lib.hid (word_sign w a 32)
  have Y := Lib.hid (word_sign w b 32)
  have lx := wSign_lt a 32 ha
  have ly := wSign_lt b 32 hb
  generalize wSign a 32 = x at *
  generalize wSign b 32 = y at *
  clear ha hb
  have K := Lib.hid (wide_36 w x y lx ly)
  generalize wWide 36 x y = g at *
  clear lx ly
  go_enter Try.func18, Try.ntmps18
  go_wp2_with (go_at_call 27; go_in)
  refine X.out.mono ?_
  rintro e w' ⟨rfl, rfl⟩
  go_wp2_with fail
  refine Y.out.mono ?_
  rintro e w' ⟨rfl, rfl⟩
  go_wp2_with fail
  refine K.out.mono ?_
  rintro e w' ⟨rfl, n, rfl⟩
  go_wp2_with fail
  refine (word_sign (w.drewN n) g 32).mono ?_
  rintro e w' ⟨rfl, rfl⟩
  go_wp2_with fail
  go_ret2
  exact rk_mk

set_option maxHeartbeats 800000 in
theorem reckon_47 (w : World) (a b : Nat) (ha : a < 18446744073709551616) (hb : b < 18446744073709551616) :
    Calls Try.prog 18 #[.int .i64 47, .int .u64 a, .int .u64 b] w (RkPost w (wRk 47 a b) true) := by
  have e : wRk 47 a b = wSign (wWide 37 (wSign a 32) (wSign (b % 32) 32)) 32 := by simp [wRk, wNar]
  rw [e]
  clear e
  have hm := mask31 b hb
  have hb2 : b % 32 < 18446744073709551616 := by omega
  generalize b % 32 = c at *
  have X := Lib.hid (word_sign w a 32)
  have Y := Lib.hid (word_sign w c 32)
  have lx := wSign_lt a 32 ha
  have ly := wSign_lt c 32 hb2
  generalize wSign a 32 = x at *
  generalize wSign c 32 = y at *
  clear ha hb hb2
  have K := Lib.hid (wide_37 w x y lx ly)
  generalize wWide 37 x y = g at *
  clear lx ly
  go_enter Try.func18, Try.ntmps18
  go_wp2_with (go_at_call 27; go_in)
  refine X.out.mono ?_
  rintro e w' ⟨rfl, rfl⟩
  go_wp2_with fail
  refine Y.out.mono ?_
  rintro e w' ⟨rfl, rfl⟩
  go_wp2_with fail
  refine K.out.mono ?_
  rintro e w' ⟨rfl, n, rfl⟩
  go_wp2_with fail
  refine (word_sign (w.drewN n) g 32).mono ?_
  rintro e w' ⟨rfl, rfl⟩
  go_wp2_with fail
  go_ret2
  exact rk_mk

set_option maxHeartbeats 800000 in
theorem reckon_48 (w : World) (a b : Nat) (ha : a < 18446744073709551616) (hb : b < 18446744073709551616) :
    Calls Try.prog 18 #[.int .i64 48, .int .u64 a, .int .u64 b] w (RkPost w (wRk 48 a b) true) := by
  have e : wRk 48 a b = wSign (wWide 41 (wLow (wSign a 32) 32) (wLow (wSign (b % 32) 32) 32)) 32 := by simp [wRk]
  rw [e]
  clear e
  have hm := mask31 b hb
  have hb2 : b % 32 < 18446744073709551616 := by omega
  generalize b % 32 = c at *
  have X := Lib.hid (word_sign w a 32)
  have Y := Lib.hid (word_sign w c 32)
  have lx := wSign_lt a 32 ha
  have ly := wSign_lt c 32 hb2
  generalize wSign a 32 = x at *
  generalize wSign c 32 = y at *
  clear ha hb hb2
  have X2 := Lib.hid (word_low w x lx 32)
  have Y2 := Lib.hid (word_low w y ly 32)
  have lx2 := wLow_lt x 32 lx
  have ly2 := wLow_lt y 32 ly
  generalize wLow x 32 = x2 at *
  generalize wLow y 32 = y2 at *
  have K := Lib.hid (wide_41 w x2 y2 lx2 ly2)
  generalize wWide 41 x2 y2 = g at *
  clear lx ly lx2 ly2
  go_enter Try.func18, Try.ntmps18
  go_wp2_with (go_at_call 27; go_in)
  refine X.out.mono ?_
  rintro e w' ⟨rfl, rfl⟩
  go_wp2_with fail
  refine Y.out.mono ?_
  rintro e w' ⟨rfl, rfl⟩
  go_wp2_with fail
  refine X2.out.mono ?_
  rintro e w' ⟨rfl, rfl⟩
  go_wp2_with fail
  refine Y2.out.mono ?_
  rintro e w' ⟨rfl, rfl⟩
  go_wp2_with fail
  refine K.out.mono ?_
  rintro e w' ⟨rfl, n, rfl⟩
  go_wp2_with fail
  refine (word_sign (w.drewN n) g 32).mono ?_
  rintro e w' ⟨rfl, rfl⟩
  go_wp2_with fail
  go_ret2
  exact rk_mk

set_option maxHeartbeats 800000 in
theorem reckon_49 (w : World) (a b : Nat) (ha : a < 18446744073709551616) (hb : b < 18446744073709551616) :
    Calls Try.prog 18 #[.int .i64 49, .int .u64 a, .int .u64 b] w (RkPost w (wRk 49 a b) true) := by
  have e : wRk 49 a b = wSign (wWide 42 (wSign a 32) (wSign (b % 32) 32)) 32 := by simp [wRk, wNar]
  rw [e]
  clear e
  have hm := mask31 b hb
  have hb2 : b % 32 < 18446744073709551616 := by omega
  generalize b % 32 = c at *
  have X := Lib.hid (word_sign w a 32)
  have Y := Lib.hid (word_sign w c 32)
  have lx := wSign_lt a 32 ha
  have ly := wSign_lt c 32 hb2
  generalize wSign a 32 = x at *
  generalize wSign c 32 = y at *
  clear ha hb hb2
  have K := Lib.hid (wide_42 w x y lx ly)
  generalize wWide 42 x y = g at *
  clear lx ly
  go_enter Try.func18, Try.ntmps18
  go_wp2_with (go_at_call 27; go_in)
  refine X.out.mono ?_
  rintro e w' ⟨rfl, rfl⟩
  go_wp2_with fail
  refine Y.out.mono ?_
  rintro e w' ⟨rfl, rfl⟩
  go_wp2_with fail
  refine K.out.mono ?_
  rintro e w' ⟨rfl, n, rfl⟩
  go_wp2_with fail
  refine (word_sign (w.drewN n) g 32).mono ?_
  rintro e w' ⟨rfl, rfl⟩
  go_wp2_with fail
  go_ret2
  exact rk_mk

set_option maxHeartbeats 800000 in
theorem reckon_58 (w : World) (a b : Nat) (ha : a < 18446744073709551616) (hb : b < 18446744073709551616) :
    Calls Try.prog 18 #[.int .i64 58, .int .u64 a, .int .u64 b] w (RkPost w (wRk 58 a b) true) := by
  have e : wRk 58 a b = wSign (wWide 50 (wSign a 32) (wSign b 32)) 32 := by simp [wRk, wNar]
  rw [e]
  clear e
  have X := Lib.hid (word_sign w a 32)
  have Y := Lib.hid (word_sign w b 32)
  have lx := wSign_lt a 32 ha
  have ly := wSign_lt b 32 hb
  generalize wSign a 32 = x at *
  generalize wSign b 32 = y at *
  clear ha hb
  have K := Lib.hid (wide_50 w x y lx ly)
  generalize wWide 50 x y = g at *
  clear lx ly
  go_enter Try.func18, Try.ntmps18
  go_wp2_with (go_at_call 27; go_in)
  refine X.out.mono ?_
  rintro e w' ⟨rfl, rfl⟩
  go_wp2_with fail
  refine Y.out.mono ?_
  rintro e w' ⟨rfl, rfl⟩
  go_wp2_with fail
  refine K.out.mono ?_
  rintro e w' ⟨rfl, n, rfl⟩
  go_wp2_with fail
  refine (word_sign (w.drewN n) g 32).mono ?_
  rintro e w' ⟨rfl, rfl⟩
  go_wp2_with fail
  go_ret2
  exact rk_mk

set_option maxHeartbeats 800000 in
theorem reckon_59 (w : World) (a b : Nat) (ha : a < 18446744073709551616) (hb : b < 18446744073709551616) :
    Calls Try.prog 18 #[.int .i64 59, .int .u64 a, .int .u64 b] w (RkPost w (wRk 59 a b) true) := by
  have e : wRk 59 a b = wSign (wWide 54 (wSign a 32) (wSign b 32)) 32 := by simp [wRk, wNar]
  rw [e]
  clear e
  have X := Lib.hid (word_sign w a 32)
  have Y := Lib.hid (word_sign w b 32)
  have lx := wSign_lt a 32 ha
  have ly := wSign_lt b 32 hb
  generalize wSign a 32 = x at *
  generalize wSign b 32 = y at *
  clear ha hb
  have K := Lib.hid (wide_54 w x y lx ly)
  generalize wWide 54 x y = g at *
  clear lx ly
  go_enter Try.func18, Try.ntmps18
  go_wp2_with (go_at_call 27; go_in)
  refine X.out.mono ?_
  rintro e w' ⟨rfl, rfl⟩
  go_wp2_with fail
  refine Y.out.mono ?_
  rintro e w' ⟨rfl, rfl⟩
  go_wp2_with fail
  refine K.out.mono ?_
  rintro e w' ⟨rfl, n, rfl⟩
  go_wp2_with fail
  refine (word_sign (w.drewN n) g 32).mono ?_
  rintro e w' ⟨rfl, rfl⟩
  go_wp2_with fail
  go_ret2
  exact rk_mk

set_option maxHeartbeats 800000 in
theorem reckon_60 (w : World) (a b : Nat) (ha : a < 18446744073709551616) (hb : b < 18446744073709551616) :
    Calls Try.prog 18 #[.int .i64 60, .int .u64 a, .int .u64 b] w (RkPost w (wRk 60 a b) true) := by
  have e : wRk 60 a b = wSign (wWide 55 (wLow (wSign a 32) 32) (wLow (wSign b 32) 32)) 32 := by simp [wRk, wNar]
  rw [e]
  clear e
  have X := Lib.hid (word_sign w a 32)
  have Y := Lib.hid (word_sign w b 32)
  have lx := wSign_lt a 32 ha
  have ly := wSign_lt b 32 hb
  generalize wSign a 32 = x at *
  generalize wSign b 32 = y at *
  clear ha hb
  have X2 := Lib.hid (word_low w x lx 32)
  have Y2 := Lib.hid (word_low w y ly 32)
  have lx2 := wLow_lt x 32 lx
  have ly2 := wLow_lt y 32 ly
  generalize wLow x 32 = x2 at *
  generalize wLow y 32 = y2 at *
  have K := Lib.hid (wide_55 w x2 y2 lx2 ly2)
  generalize wWide 55 x2 y2 = g at *
  clear lx ly lx2 ly2
  go_enter Try.func18, Try.ntmps18
  go_wp2_with (go_at_call 27; go_in)
  refine X.out.mono ?_
  rintro e w' ⟨rfl, rfl⟩
  go_wp2_with fail
  refine Y.out.mono ?_
  rintro e w' ⟨rfl, rfl⟩
  go_wp2_with fail
  refine X2.out.mono ?_
  rintro e w' ⟨rfl, rfl⟩
  go_wp2_with fail
  refine Y2.out.mono ?_
  rintro e w' ⟨rfl, rfl⟩
  go_wp2_with fail
  refine K.out.mono ?_
  rintro e w' ⟨rfl, n, rfl⟩
  go_wp2_with fail
  refine (word_sign (w.drewN n) g 32).mono ?_
  rintro e w' ⟨rfl, rfl⟩
  go_wp2_with fail
  go_ret2
  exact rk_mk

set_option maxHeartbeats 800000 in
theorem reckon_61 (w : World) (a b : Nat) (ha : a < 18446744073709551616) (hb : b < 18446744073709551616) :
    Calls Try.prog 18 #[.int .i64 61, .int .u64 a, .int .u64 b] w (RkPost w (wRk 61 a b) true) := by
  have e : wRk 61 a b = wSign (wWide 56 (wSign a 32) (wSign b 32)) 32 := by simp [wRk, wNar]
  rw [e]
  clear e
  have X := Lib.hid (word_sign w a 32)
  have Y := Lib.hid (word_sign w b 32)
  have lx := wSign_lt a 32 ha
  have ly := wSign_lt b 32 hb
  generalize wSign a 32 = x at *
  generalize wSign b 32 = y at *
  clear ha hb
  have K := Lib.hid (wide_56 w x y lx ly)
  generalize wWide 56 x y = g at *
  clear lx ly
  go_enter Try.func18, Try.ntmps18
  go_wp2_with (go_at_call 27; go_in)
  refine X.out.mono ?_
  rintro e w' ⟨rfl, rfl⟩
  go_wp2_with fail
  refine Y.out.mono ?_
  rintro e w' ⟨rfl, rfl⟩
  go_wp2_with fail
  refine K.out.mono ?_
  rintro e w' ⟨rfl, n, rfl⟩
  go_wp2_with fail
  refine (word_sign (w.drewN n) g 32).mono ?_
  rintro e w' ⟨rfl, rfl⟩
  go_wp2_with fail
  go_ret2
  exact rk_mk

set_option maxHeartbeats 800000 in
theorem reckon_62 (w : World) (a b : Nat) (ha : a < 18446744073709551616) (hb : b < 18446744073709551616) :
    Calls Try.prog 18 #[.int .i64 62, .int .u64 a, .int .u64 b] w (RkPost w (wRk 62 a b) true) := by
  have e : wRk 62 a b = wSign (wWide 57 (wLow (wSign a 32) 32) (wLow (wSign b 32) 32)) 32 := by simp [wRk, wNar]
  rw [e]
  clear e
  have X := Lib.hid (word_sign w a 32)
  have Y := Lib.hid (word_sign w b 32)
  have lx := wSign_lt a 32 ha
  have ly := wSign_lt b 32 hb
  generalize wSign a 32 = x at *
  generalize wSign b 32 = y at *
  clear ha hb
  have X2 := Lib.hid (word_low w x lx 32)
  have Y2 := Lib.hid (word_low w y ly 32)
  have lx2 := wLow_lt x 32 lx
  have ly2 := wLow_lt y 32 ly
  generalize wLow x 32 = x2 at *
  generalize wLow y 32 = y2 at *
  have K := Lib.hid (wide_57 w x2 y2 lx2 ly2)
  generalize wWide 57 x2 y2 = g at *
  clear lx ly lx2 ly2
  go_enter Try.func18, Try.ntmps18
  go_wp2_with (go_at_call 27; go_in)
  refine X.out.mono ?_
  rintro e w' ⟨rfl, rfl⟩
  go_wp2_with fail
  refine Y.out.mono ?_
  rintro e w' ⟨rfl, rfl⟩
  go_wp2_with fail
  refine X2.out.mono ?_
  rintro e w' ⟨rfl, rfl⟩
  go_wp2_with fail
  refine Y2.out.mono ?_
  rintro e w' ⟨rfl, rfl⟩
  go_wp2_with fail
  refine K.out.mono ?_
  rintro e w' ⟨rfl, n, rfl⟩
  go_wp2_with fail
  refine (word_sign (w.drewN n) g 32).mono ?_
  rintro e w' ⟨rfl, rfl⟩
  go_wp2_with fail
  go_ret2
  exact rk_mk

theorem reckon_all (w : World) (op : Int) (a b : Nat) (ha : a < 18446744073709551616) (hb : b < 18446744073709551616) (h1 : 35 ≤ op) (h2 : op ≤ 62) :
    Calls Try.prog 18 #[.int .i64 op, .int .u64 a, .int .u64 b] w (RkPost w (wRk op a b) true) := by
  have h : op = 35 ∨ op = 36 ∨ op = 37 ∨ op = 38 ∨ op = 39 ∨ op = 40 ∨ op = 41 ∨ op = 42 ∨ op = 43 ∨ op = 44 ∨ op = 45 ∨ op = 46 ∨ op = 47 ∨ op = 48 ∨ op = 49 ∨ op = 50 ∨ op = 51 ∨ op = 52 ∨ op = 53 ∨ op = 54 ∨ op = 55 ∨ op = 56 ∨ op = 57 ∨ op = 58 ∨ op = 59 ∨ op = 60 ∨ op = 61 ∨ op = 62 := by omega
  rcases h with rfl | rfl | rfl | rfl | rfl | rfl | rfl | rfl | rfl | rfl | rfl | rfl | rfl | rfl | rfl | rfl | rfl | rfl | rfl | rfl | rfl | rfl | rfl | rfl | rfl | rfl | rfl | rfl
  · exact reckon_35 w a b ha hb
  · exact reckon_36 w a b ha hb
  · exact reckon_37 w a b ha hb
  · exact reckon_38 w a b ha hb
  · exact reckon_39 w a b ha hb
  · exact reckon_40 w a b ha hb
  · exact reckon_41 w a b ha hb
  · exact reckon_42 w a b ha hb
  · exact reckon_43 w a b ha hb
  · exact reckon_44 w a b ha hb
  · exact reckon_45 w a b ha hb
  · exact reckon_46 w a b ha hb
  · exact reckon_47 w a b ha hb
  · exact reckon_48 w a b ha hb
  · exact reckon_49 w a b ha hb
  · exact reckon_50 w a b ha hb
  · exact reckon_51 w a b ha hb
  · exact reckon_52 w a b ha hb
  · exact reckon_53 w a b ha hb
  · exact reckon_54 w a b ha hb
  · exact reckon_55 w a b ha hb
  · exact reckon_56 w a b ha hb
  · exact reckon_57 w a b ha hb
  · exact reckon_58 w a b ha hb
  · exact reckon_59 w a b ha hb
  · exact reckon_60 w a b ha hb
  · exact reckon_61 w a b ha hb
  · exact reckon_62 w a b ha hb

/-- Reckon's answer -/
def wOk (op : Int) : Bool := decide (35 ≤ op) && decide (op ≤ 62)
def wReckon (op : Int) (a b : Nat) : Nat := if wOk op then wRk op a b else 0

theorem word_reckon (w : World) (op : Int) (a b : Nat) (ha : a < 18446744073709551616) (hb : b < 18446744073709551616) :
    Calls Try.prog 18 #[.int .i64 op, .int .u64 a, .int .u64 b] w (RkPost w (wReckon op a b) (wOk op)) := by
  by_cases h1 : 35 ≤ op
  · by_cases h2 : op ≤ 62
    · have e : wOk op = true := by simp [wOk, h1, h2]
      rw [wReckon, e]
      exact reckon_all w op a b ha hb h1 h2
    · have e : wOk op = false := by simp [wOk, h2]
      rw [wReckon, e]
      exact reckon_no w op a b (by omega)
  · have e : wOk op = false := by simp [wOk, h1]
    rw [wReckon, e]
    exact reckon_no w op a b (by omega)
end Go.Proofs.Ytcpmjgjefhpgkaa
