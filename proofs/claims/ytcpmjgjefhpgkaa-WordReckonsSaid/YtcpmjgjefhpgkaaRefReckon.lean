/-
  The document's Reckon by its contract, at each opcode, and for every number.
-/
import Derived.Test.YtcpmjgjefhpgkaaRefWide
namespace Go.Proofs.Ytcpmjgjefhpgkaa
open Go.RowKit

def RfPost (w : World) (r : Nat) (ok : Bool) (e : Ending) (w' : World) : Prop := e = .returned (.tuple #[.int .u64 (r : Int), .bool ok]) ∧ Chg (fun _ => False) w w'

theorem rreckon_no (w : World) (op : Int) (a b : Nat) (h : op < 35 ∨ 62 < op) :
    Calls Try.prog 19 #[.int .i64 op, .int .u64 a, .int .u64 b] w (RfPost w 0 false) := by
  by_cases h1 : op < 35
  · clear h
    go_enter Try.func19, Try.ntmps19
    go_wp2_with fail
    go_ret2
    exact ⟨rfl, Chg.refl _ _⟩
  · have h2 : 62 < op := by omega
    clear h
    go_enter Try.func19, Try.ntmps19
    go_wp2_with fail
    go_ret2
    exact ⟨rfl, Chg.refl _ _⟩

set_option maxRecDepth 100000 in
set_option maxHeartbeats 800000 in
theorem rreckon_35 (w : World) (a b : Nat) (ha : a < 18446744073709551616) (hb : b < 18446744073709551616) :
    Calls Try.prog 19 #[.int .i64 35, .int .u64 a, .int .u64 b] w (RfPost w (wRk 35 a b) true) := by
  have e : wRk 35 a b = wWide 35 a b := by simp [wRk]
  rw [e]
  have K := fun W => Lib.hid (rwide_35 W a b ha hb)
  generalize wWide 35 a b = g at *
  have HK := Lib.hid K
  clear ha hb e K
  go_enter Try.func19, Try.ntmps19
  go_wp2_with fail
  refine (HK.out _).out.mono ?_
  rintro e w' ⟨rfl, n, rfl⟩
  go_wp2_with fail
  go_ret2
  exact ⟨rfl, by first | exact ((Chg.refl _ _).alloc _).drewN _ | exact (((Chg.refl _ _).alloc _).alloc _).drewN _⟩

set_option maxRecDepth 100000 in
set_option maxHeartbeats 800000 in
theorem rreckon_36 (w : World) (a b : Nat) (ha : a < 18446744073709551616) (hb : b < 18446744073709551616) :
    Calls Try.prog 19 #[.int .i64 36, .int .u64 a, .int .u64 b] w (RfPost w (wRk 36 a b) true) := by
  have e : wRk 36 a b = wWide 36 a b := by simp [wRk]
  rw [e]
  have K := fun W => Lib.hid (rwide_36 W a b ha hb)
  generalize wWide 36 a b = g at *
  have HK := Lib.hid K
  clear ha hb e K
  go_enter Try.func19, Try.ntmps19
  go_wp2_with fail
  refine (HK.out _).out.mono ?_
  rintro e w' ⟨rfl, n, rfl⟩
  go_wp2_with fail
  go_ret2
  exact ⟨rfl, by first | exact ((Chg.refl _ _).alloc _).drewN _ | exact (((Chg.refl _ _).alloc _).alloc _).drewN _⟩

set_option maxRecDepth 100000 in
set_option maxHeartbeats 800000 in
theorem rreckon_37 (w : World) (a b : Nat) (ha : a < 18446744073709551616) (hb : b < 18446744073709551616) :
    Calls Try.prog 19 #[.int .i64 37, .int .u64 a, .int .u64 b] w (RfPost w (wRk 37 a b) true) := by
  have e : wRk 37 a b = wWide 37 a b := by simp [wRk]
  rw [e]
  have K := fun W => Lib.hid (rwide_37 W a b ha hb)
  generalize wWide 37 a b = g at *
  have HK := Lib.hid K
  clear ha hb e K
  go_enter Try.func19, Try.ntmps19
  go_wp2_with fail
  refine (HK.out _).out.mono ?_
  rintro e w' ⟨rfl, n, rfl⟩
  go_wp2_with fail
  go_ret2
  exact ⟨rfl, by first | exact ((Chg.refl _ _).alloc _).drewN _ | exact (((Chg.refl _ _).alloc _).alloc _).drewN _⟩

set_option maxRecDepth 100000 in
set_option maxHeartbeats 800000 in
theorem rreckon_38 (w : World) (a b : Nat) (ha : a < 18446744073709551616) (hb : b < 18446744073709551616) :
    Calls Try.prog 19 #[.int .i64 38, .int .u64 a, .int .u64 b] w (RfPost w (wRk 38 a b) true) := by
  have e : wRk 38 a b = wWide 38 a b := by simp [wRk]
  rw [e]
  have K := fun W => Lib.hid (rwide_38 W a b ha hb)
  generalize wWide 38 a b = g at *
  have HK := Lib.hid K
  clear ha hb e K
  go_enter Try.func19, Try.ntmps19
  go_wp2_with fail
  refine (HK.out _).out.mono ?_
  rintro e w' ⟨rfl, n, rfl⟩
  go_wp2_with fail
  go_ret2
  exact ⟨rfl, by first | exact ((Chg.refl _ _).alloc _).drewN _ | exact (((Chg.refl _ _).alloc _).alloc _).drewN _⟩

set_option maxRecDepth 100000 in
set_option maxHeartbeats 800000 in
theorem rreckon_39 (w : World) (a b : Nat) (ha : a < 18446744073709551616) (hb : b < 18446744073709551616) :
    Calls Try.prog 19 #[.int .i64 39, .int .u64 a, .int .u64 b] w (RfPost w (wRk 39 a b) true) := by
  have e : wRk 39 a b = wWide 39 a b := by simp [wRk]
  rw [e]
  have K := fun W => Lib.hid (rwide_39 W a b ha hb)
  generalize wWide 39 a b = g at *
  have HK := Lib.hid K
  clear ha hb e K
  go_enter Try.func19, Try.ntmps19
  go_wp2_with fail
  refine (HK.out _).out.mono ?_
  rintro e w' ⟨rfl, n, rfl⟩
  go_wp2_with fail
  go_ret2
  exact ⟨rfl, by first | exact ((Chg.refl _ _).alloc _).drewN _ | exact (((Chg.refl _ _).alloc _).alloc _).drewN _⟩

set_option maxRecDepth 100000 in
set_option maxHeartbeats 800000 in
theorem rreckon_40 (w : World) (a b : Nat) (ha : a < 18446744073709551616) (hb : b < 18446744073709551616) :
    Calls Try.prog 19 #[.int .i64 40, .int .u64 a, .int .u64 b] w (RfPost w (wRk 40 a b) true) := by
  have e : wRk 40 a b = wWide 40 a b := by simp [wRk]
  rw [e]
  have K := fun W => Lib.hid (rwide_40 W a b ha hb)
  generalize wWide 40 a b = g at *
  have HK := Lib.hid K
  clear ha hb e K
  go_enter Try.func19, Try.ntmps19
  go_wp2_with fail
  refine (HK.out _).out.mono ?_
  rintro e w' ⟨rfl, n, rfl⟩
  go_wp2_with fail
  go_ret2
  exact ⟨rfl, by first | exact ((Chg.refl _ _).alloc _).drewN _ | exact (((Chg.refl _ _).alloc _).alloc _).drewN _⟩

set_option maxRecDepth 100000 in
set_option maxHeartbeats 800000 in
theorem rreckon_41 (w : World) (a b : Nat) (ha : a < 18446744073709551616) (hb : b < 18446744073709551616) :
    Calls Try.prog 19 #[.int .i64 41, .int .u64 a, .int .u64 b] w (RfPost w (wRk 41 a b) true) := by
  have e : wRk 41 a b = wWide 41 a b := by simp [wRk]
  rw [e]
  have K := fun W => Lib.hid (rwide_41 W a b ha hb)
  generalize wWide 41 a b = g at *
  have HK := Lib.hid K
  clear ha hb e K
  go_enter Try.func19, Try.ntmps19
  go_wp2_with fail
  refine (HK.out _).out.mono ?_
  rintro e w' ⟨rfl, n, rfl⟩
  go_wp2_with fail
  go_ret2
  exact ⟨rfl, by first | exact ((Chg.refl _ _).alloc _).drewN _ | exact (((Chg.refl _ _).alloc _).alloc _).drewN _⟩

set_option maxRecDepth 100000 in
set_option maxHeartbeats 800000 in
theorem rreckon_42 (w : World) (a b : Nat) (ha : a < 18446744073709551616) (hb : b < 18446744073709551616) :
    Calls Try.prog 19 #[.int .i64 42, .int .u64 a, .int .u64 b] w (RfPost w (wRk 42 a b) true) := by
  have e : wRk 42 a b = wWide 42 a b := by simp [wRk]
  rw [e]
  have K := fun W => Lib.hid (rwide_42 W a b ha hb)
  generalize wWide 42 a b = g at *
  have HK := Lib.hid K
  clear ha hb e K
  go_enter Try.func19, Try.ntmps19
  go_wp2_with fail
  refine (HK.out _).out.mono ?_
  rintro e w' ⟨rfl, n, rfl⟩
  go_wp2_with fail
  go_ret2
  exact ⟨rfl, by first | exact ((Chg.refl _ _).alloc _).drewN _ | exact (((Chg.refl _ _).alloc _).alloc _).drewN _⟩

set_option maxRecDepth 100000 in
set_option maxHeartbeats 800000 in
theorem rreckon_43 (w : World) (a b : Nat) (ha : a < 18446744073709551616) (hb : b < 18446744073709551616) :
    Calls Try.prog 19 #[.int .i64 43, .int .u64 a, .int .u64 b] w (RfPost w (wRk 43 a b) true) := by
  have e : wRk 43 a b = wWide 43 a b := by simp [wRk]
  rw [e]
  have K := fun W => Lib.hid (rwide_43 W a b ha hb)
  generalize wWide 43 a b = g at *
  have HK := Lib.hid K
  clear ha hb e K
  go_enter Try.func19, Try.ntmps19
  go_wp2_with fail
  refine (HK.out _).out.mono ?_
  rintro e w' ⟨rfl, n, rfl⟩
  go_wp2_with fail
  go_ret2
  exact ⟨rfl, by first | exact ((Chg.refl _ _).alloc _).drewN _ | exact (((Chg.refl _ _).alloc _).alloc _).drewN _⟩

set_option maxRecDepth 100000 in
set_option maxHeartbeats 800000 in
theorem rreckon_44 (w : World) (a b : Nat) (ha : a < 18446744073709551616) (hb : b < 18446744073709551616) :
    Calls Try.prog 19 #[.int .i64 44, .int .u64 a, .int .u64 b] w (RfPost w (wRk 44 a b) true) := by
  have e : wRk 44 a b = wWide 44 a b := by simp [wRk]
  rw [e]
  have K := fun W => Lib.hid (rwide_44 W a b ha hb)
  generalize wWide 44 a b = g at *
  have HK := Lib.hid K
  clear ha hb e K
  go_enter Try.func19, Try.ntmps19
  go_wp2_with fail
  refine (HK.out _).out.mono ?_
  rintro e w' ⟨rfl, n, rfl⟩
  go_wp2_with fail
  go_ret2
  exact ⟨rfl, by first | exact ((Chg.refl _ _).alloc _).drewN _ | exact (((Chg.refl _ _).alloc _).alloc _).drewN _⟩

set_option maxRecDepth 100000 in
set_option maxHeartbeats 800000 in
theorem rreckon_50 (w : World) (a b : Nat) (ha : a < 18446744073709551616) (hb : b < 18446744073709551616) :
    Calls Try.prog 19 #[.int .i64 50, .int .u64 a, .int .u64 b] w (RfPost w (wRk 50 a b) true) := by
  have e : wRk 50 a b = wWide 50 a b := by simp [wRk]
  rw [e]
  have K := fun W => Lib.hid (rwide_50 W a b ha hb)
  generalize wWide 50 a b = g at *
  have HK := Lib.hid K
  clear ha hb e K
  go_enter Try.func19, Try.ntmps19
  go_wp2_with fail
  refine (HK.out _).out.mono ?_
  rintro e w' ⟨rfl, n, rfl⟩
  go_wp2_with fail
  go_ret2
  exact ⟨rfl, by first | exact ((Chg.refl _ _).alloc _).drewN _ | exact (((Chg.refl _ _).alloc _).alloc _).drewN _⟩

set_option maxRecDepth 100000 in
set_option maxHeartbeats 800000 in
theorem rreckon_51 (w : World) (a b : Nat) (ha : a < 18446744073709551616) (hb : b < 18446744073709551616) :
    Calls Try.prog 19 #[.int .i64 51, .int .u64 a, .int .u64 b] w (RfPost w (wRk 51 a b) true) := by
  have e : wRk 51 a b = wWide 51 a b := by simp [wRk]
  rw [e]
  have K := fun W => Lib.hid (rwide_51 W a b ha hb)
  generalize wWide 51 a b = g at *
  have HK := Lib.hid K
  clear ha hb e K
  go_enter Try.func19, Try.ntmps19
  go_wp2_with fail
  refine (HK.out _).out.mono ?_
  rintro e w' ⟨rfl, n, rfl⟩
  go_wp2_with fail
  go_ret2
  exact ⟨rfl, by first | exact ((Chg.refl _ _).alloc _).drewN _ | exact (((Chg.refl _ _).alloc _).alloc _).drewN _⟩

set_option maxRecDepth 100000 in
set_option maxHeartbeats 800000 in
theorem rreckon_52 (w : World) (a b : Nat) (ha : a < 18446744073709551616) (hb : b < 18446744073709551616) :
    Calls Try.prog 19 #[.int .i64 52, .int .u64 a, .int .u64 b] w (RfPost w (wRk 52 a b) true) := by
  have e : wRk 52 a b = wWide 52 a b := by simp [wRk]
  rw [e]
  have K := fun W => Lib.hid (rwide_52 W a b ha hb)
  generalize wWide 52 a b = g at *
  have HK := Lib.hid K
  clear ha hb e K
  go_enter Try.func19, Try.ntmps19
  go_wp2_with fail
  refine (HK.out _).out.mono ?_
  rintro e w' ⟨rfl, n, rfl⟩
  go_wp2_with fail
  go_ret2
  exact ⟨rfl, by first | exact ((Chg.refl _ _).alloc _).drewN _ | exact (((Chg.refl _ _).alloc _).alloc _).drewN _⟩

set_option maxRecDepth 100000 in
set_option maxHeartbeats 800000 in
theorem rreckon_53 (w : World) (a b : Nat) (ha : a < 18446744073709551616) (hb : b < 18446744073709551616) :
    Calls Try.prog 19 #[.int .i64 53, .int .u64 a, .int .u64 b] w (RfPost w (wRk 53 a b) true) := by
  have e : wRk 53 a b = wWide 53 a b := by simp [wRk]
  rw [e]
  have K := fun W => Lib.hid (rwide_53 W a b ha hb)
  generalize wWide 53 a b = g at *
  have HK := Lib.hid K
  clear ha hb e K
  go_enter Try.func19, Try.ntmps19
  go_wp2_with fail
  refine (HK.out _).out.mono ?_
  rintro e w' ⟨rfl, n, rfl⟩
  go_wp2_with fail
  go_ret2
  exact ⟨rfl, by first | exact ((Chg.refl _ _).alloc _).drewN _ | exact (((Chg.refl _ _).alloc _).alloc _).drewN _⟩

set_option maxRecDepth 100000 in
set_option maxHeartbeats 800000 in
theorem rreckon_54 (w : World) (a b : Nat) (ha : a < 18446744073709551616) (hb : b < 18446744073709551616) :
    Calls Try.prog 19 #[.int .i64 54, .int .u64 a, .int .u64 b] w (RfPost w (wRk 54 a b) true) := by
  have e : wRk 54 a b = wWide 54 a b := by simp [wRk]
  rw [e]
  have K := fun W => Lib.hid (rwide_54 W a b ha hb)
  generalize wWide 54 a b = g at *
  have HK := Lib.hid K
  clear ha hb e K
  go_enter Try.func19, Try.ntmps19
  go_wp2_with fail
  refine (HK.out _).out.mono ?_
  rintro e w' ⟨rfl, n, rfl⟩
  go_wp2_with fail
  go_ret2
  exact ⟨rfl, by first | exact ((Chg.refl _ _).alloc _).drewN _ | exact (((Chg.refl _ _).alloc _).alloc _).drewN _⟩

set_option maxRecDepth 100000 in
set_option maxHeartbeats 800000 in
theorem rreckon_55 (w : World) (a b : Nat) (ha : a < 18446744073709551616) (hb : b < 18446744073709551616) :
    Calls Try.prog 19 #[.int .i64 55, .int .u64 a, .int .u64 b] w (RfPost w (wRk 55 a b) true) := by
  have e : wRk 55 a b = wWide 55 a b := by simp [wRk]
  rw [e]
  have K := fun W => Lib.hid (rwide_55 W a b ha hb)
  generalize wWide 55 a b = g at *
  have HK := Lib.hid K
  clear ha hb e K
  go_enter Try.func19, Try.ntmps19
  go_wp2_with fail
  refine (HK.out _).out.mono ?_
  rintro e w' ⟨rfl, n, rfl⟩
  go_wp2_with fail
  go_ret2
  exact ⟨rfl, by first | exact ((Chg.refl _ _).alloc _).drewN _ | exact (((Chg.refl _ _).alloc _).alloc _).drewN _⟩

set_option maxRecDepth 100000 in
set_option maxHeartbeats 800000 in
theorem rreckon_56 (w : World) (a b : Nat) (ha : a < 18446744073709551616) (hb : b < 18446744073709551616) :
    Calls Try.prog 19 #[.int .i64 56, .int .u64 a, .int .u64 b] w (RfPost w (wRk 56 a b) true) := by
  have e : wRk 56 a b = wWide 56 a b := by simp [wRk]
  rw [e]
  have K := fun W => Lib.hid (rwide_56 W a b ha hb)
  generalize wWide 56 a b = g at *
  have HK := Lib.hid K
  clear ha hb e K
  go_enter Try.func19, Try.ntmps19
  go_wp2_with fail
  refine (HK.out _).out.mono ?_
  rintro e w' ⟨rfl, n, rfl⟩
  go_wp2_with fail
  go_ret2
  exact ⟨rfl, by first | exact ((Chg.refl _ _).alloc _).drewN _ | exact (((Chg.refl _ _).alloc _).alloc _).drewN _⟩

set_option maxRecDepth 100000 in
set_option maxHeartbeats 800000 in
theorem rreckon_57 (w : World) (a b : Nat) (ha : a < 18446744073709551616) (hb : b < 18446744073709551616) :
    Calls Try.prog 19 #[.int .i64 57, .int .u64 a, .int .u64 b] w (RfPost w (wRk 57 a b) true) := by
  have e : wRk 57 a b = wWide 57 a b := by simp [wRk]
  rw [e]
  have K := fun W => Lib.hid (rwide_57 W a b ha hb)
  generalize wWide 57 a b = g at *
  have HK := Lib.hid K
  clear ha hb e K
  go_enter Try.func19, Try.ntmps19
  go_wp2_with fail
  refine (HK.out _).out.mono ?_
  rintro e w' ⟨rfl, n, rfl⟩
  go_wp2_with fail
  go_ret2
  exact ⟨rfl, by first | exact ((Chg.refl _ _).alloc _).drewN _ | exact (((Chg.refl _ _).alloc _).alloc _).drewN _⟩

set_option maxRecDepth 100000 in
set_option maxHeartbeats 800000 in
theorem rreckon_45 (w : World) (a b : Nat) (ha : a < 18446744073709551616) (hb : b < 18446744073709551616) :
    Calls Try.prog 19 #[.int .i64 45, .int .u64 a, .int .u64 b] w (RfPost w (wRk 45 a b) true) := by
  have e : wRk 45 a b = wSign (wWide 35 (wSign a 32) (wSign b 32)) 32 := by simp [wRk, wNar]
  rw [e]
  clear e
  have X := fun W => Lib.hid (ref_sign W a ha 32)
  have Y := fun W => Lib.hid (ref_sign W b hb 32)
  have lx := wSign_lt a 32 ha
  have ly := wSign_lt b 32 hb
  generalize wSign a 32 = x at *
  generalize wSign b 32 = y at *
  have K := fun W => Lib.hid (rwide_35 W x y lx ly)
  have Z := fun W => Lib.hid (ref_sign W _ (wWide_lt 35 x y lx ly) 32)
  generalize wWide 35 x y = g at *
  generalize wSign g 32 = z at *
  have HX := Lib.hid X; have HY := Lib.hid Y; have HK := Lib.hid K; have HZ := Lib.hid Z
  clear ha hb lx ly X Y K Z
  go_enter Try.func19, Try.ntmps19
  go_wp2_with fail
  refine (HX.out _).out.mono ?_
  rintro e w' ⟨rfl, rfl⟩
  go_wp2_with fail
  refine (HY.out _).out.mono ?_
  rintro e w' ⟨rfl, rfl⟩
  go_wp2_with fail
  refine (HK.out _).out.mono ?_
  rintro e w' ⟨rfl, n, rfl⟩
  go_wp2_with fail
  refine (HZ.out _).out.mono ?_
  rintro e w' ⟨rfl, rfl⟩
  go_wp2_with fail
  go_ret2
  exact ⟨rfl, by first | exact ((Chg.refl _ _).alloc _).drewN _ | exact (((Chg.refl _ _).alloc _).alloc _).drewN _⟩

set_option maxRecDepth 100000 in
set_option maxHeartbeats 800000 in
theorem rreckon_46 (w : World) (a b : Nat) (ha : a < 18446744073709551616) (hb : b < 18446744073709551616) :
    Calls Try.prog 19 #[.int .i64 46, .int .u64 a, .int .u64 b] w (RfPost w (wRk 46 a b) true) := by
  have e : wRk 46 a b = wSign (wWide 36 (wSign a 32) (wSign b 32)) 32 := by simp [wRk, wNar]
  rw [e]
  clear e
  have X := fun W => Lib.hid (ref_sign W a ha 32)
  have Y := fun W => Lib.hid (ref_sign W b hb 32)
  have lx := wSign_lt a 32 ha
  have ly := wSign_lt b 32 hb
  generalize wSign a 32 = x at *
  generalize wSign b 32 = y at *
  have K := fun W => Lib.hid (rwide_36 W x y lx ly)
  have Z := fun W => Lib.hid (ref_sign W _ (wWide_lt 36 x y lx ly) 32)
  generalize wWide 36 x y = g at *
  generalize wSign g 32 = z at *
  have HX := Lib.hid X; have HY := Lib.hid Y; have HK := Lib.hid K; have HZ := Lib.hid Z
  clear ha hb lx ly X Y K Z
  go_enter Try.func19, Try.ntmps19
  go_wp2_with fail
  refine (HX.out _).out.mono ?_
  rintro e w' ⟨rfl, rfl⟩
  go_wp2_with fail
  refine (HY.out _).out.mono ?_
  rintro e w' ⟨rfl, rfl⟩
  go_wp2_with fail
  refine (HK.out _).out.mono ?_
  rintro e w' ⟨rfl, n, rfl⟩
  go_wp2_with fail
  refine (HZ.out _).out.mono ?_
  rintro e w' ⟨rfl, rfl⟩
  go_wp2_with fail
  go_ret2
  exact ⟨rfl, by first | exact ((Chg.refl _ _).alloc _).drewN _ | exact (((Chg.refl _ _).alloc _).alloc _).drewN _⟩

set_option maxRecDepth 100000 in
set_option maxHeartbeats 800000 in
theorem rreckon_47 (w : World) (a b : Nat) (ha : a < 18446744073709551616) (hb : b < 18446744073709551616) :
    Calls Try.prog 19 #[.int .i64 47, .int .u64 a, .int .u64 b] w (RfPost w (wRk 47 a b) true) := by
  have e : wRk 47 a b = wSign (wWide 37 (wSign a 32) (wSign (b % 32) 32)) 32 := by simp [wRk, wNar]
  rw [e]
  clear e
  have FS : (b : Int) % 32 = ((b % 32 : Nat) : Int) := by simp
  have hb2 : b % 32 < 18446744073709551616 := by omega
  generalize b % 32 = c at *
  have X := fun W => Lib.hid (ref_sign W a ha 32)
  have Y := fun W => Lib.hid (ref_sign W c hb2 32)
  have lx := wSign_lt a 32 ha
  have ly := wSign_lt c 32 hb2
  generalize wSign a 32 = x at *
  generalize wSign c 32 = y at *
  have K := fun W => Lib.hid (rwide_37 W x y lx ly)
  have Z := fun W => Lib.hid (ref_sign W _ (wWide_lt 37 x y lx ly) 32)
  generalize wWide 37 x y = g at *
  generalize wSign g 32 = z at *
  have HX := Lib.hid X; have HY := Lib.hid Y; have HK := Lib.hid K; have HZ := Lib.hid Z
  clear ha hb lx ly X Y K Z hb2
  go_enter Try.func19, Try.ntmps19
  go_wp2_with fail
  refine (HX.out _).out.mono ?_
  rintro e w' ⟨rfl, rfl⟩
  go_wp2_with fail
  refine (HY.out _).out.mono ?_
  rintro e w' ⟨rfl, rfl⟩
  go_wp2_with fail
  refine (HK.out _).out.mono ?_
  rintro e w' ⟨rfl, n, rfl⟩
  go_wp2_with fail
  refine (HZ.out _).out.mono ?_
  rintro e w' ⟨rfl, rfl⟩
  go_wp2_with fail
  go_ret2
  exact ⟨rfl, by first | exact ((Chg.refl _ _).alloc _).drewN _ | exact (((Chg.refl _ _).alloc _).alloc _).drewN _⟩

set_option maxRecDepth 100000 in
set_option maxHeartbeats 800000 in
theorem rreckon_48 (w : World) (a b : Nat) (ha : a < 18446744073709551616) (hb : b < 18446744073709551616) :
    Calls Try.prog 19 #[.int .i64 48, .int .u64 a, .int .u64 b] w (RfPost w (wRk 48 a b) true) := by
  have e : wRk 48 a b = wSign (wWide 41 (wLow (wSign a 32) 32) (wLow (wSign (b % 32) 32) 32)) 32 := by simp [wRk]
  rw [e]
  clear e
  rw [low_sign, low_sign]
  have FS : (b : Int) % 32 = ((b % 32 : Nat) : Int) := by simp
  have hb2 : b % 32 < 18446744073709551616 := by omega
  generalize b % 32 = c at *
  have X := fun W => Lib.hid (ref_sign W a ha 32)
  have Y := fun W => Lib.hid (ref_sign W c hb2 32)
  have lx := wSign_lt a 32 ha
  have ly := wSign_lt c 32 hb2
  have X2 := fun W => Lib.hid (ref_low W a 32)
  have Y2 := fun W => Lib.hid (ref_low W c 32)
  have lx2 := wLow_lt a 32 ha
  have ly2 := wLow_lt c 32 hb2
  generalize wLow a 32 = x2 at *
  generalize wLow c 32 = y2 at *
  have HX2 := Lib.hid X2; have HY2 := Lib.hid Y2
  clear X2 Y2
  generalize wSign a 32 = x at *
  generalize wSign c 32 = y at *
  have K := fun W => Lib.hid (rwide_41 W x2 y2 lx2 ly2)
  have Z := fun W => Lib.hid (ref_sign W _ (wWide_lt 41 x2 y2 lx2 ly2) 32)
  generalize wWide 41 x2 y2 = g at *
  generalize wSign g 32 = z at *
  have HX := Lib.hid X; have HY := Lib.hid Y; have HK := Lib.hid K; have HZ := Lib.hid Z
  clear ha hb lx ly X Y K Z hb2 lx2 ly2
  go_enter Try.func19, Try.ntmps19
  go_wp2_with fail
  refine (HX.out _).out.mono ?_
  rintro e w' ⟨rfl, rfl⟩
  go_wp2_with fail
  refine (HY.out _).out.mono ?_
  rintro e w' ⟨rfl, rfl⟩
  go_wp2_with fail
  refine (HX2.out _).out.mono ?_
  rintro e w' ⟨rfl, rfl⟩
  go_wp2_with fail
  refine (HY2.out _).out.mono ?_
  rintro e w' ⟨rfl, rfl⟩
  go_wp2_with fail
  refine (HK.out _).out.mono ?_
  rintro e w' ⟨rfl, n, rfl⟩
  go_wp2_with fail
  refine (HZ.out _).out.mono ?_
  rintro e w' ⟨rfl, rfl⟩
  go_wp2_with fail
  go_ret2
  exact ⟨rfl, by first | exact ((Chg.refl _ _).alloc _).drewN _ | exact (((Chg.refl _ _).alloc _).alloc _).drewN _⟩

set_option maxRecDepth 100000 in
set_option maxHeartbeats 800000 in
theorem rreckon_49 (w : World) (a b : Nat) (ha : a < 18446744073709551616) (hb : b < 18446744073709551616) :
    Calls Try.prog 19 #[.int .i64 49, .int .u64 a, .int .u64 b] w (RfPost w (wRk 49 a b) true) := by
  have e : wRk 49 a b = wSign (wWide 42 (wSign a 32) (wSign (b % 32) 32)) 32 := by simp [wRk, wNar]
  rw [e]
  clear e
  have FS : (b : Int) % 32 = ((b % 32 : Nat) : Int) := by simp
  have hb2 : b % 32 < 18446744073709551616 := by omega
  generalize b % 32 = c at *
  have X := fun W => Lib.hid (ref_sign W a ha 32)
  have Y := fun W => Lib.hid (ref_sign W c hb2 32)
  have lx := wSign_lt a 32 ha
  have ly := wSign_lt c 32 hb2
  generalize wSign a 32 = x at *
  generalize wSign c 32 = y at *
  have K := fun W => Lib.hid (rwide_42 W x y lx ly)
  have Z := fun W => Lib.hid (ref_sign W _ (wWide_lt 42 x y lx ly) 32)
  generalize wWide 42 x y = g at *
  generalize wSign g 32 = z at *
  have HX := Lib.hid X; have HY := Lib.hid Y; have HK := Lib.hid K; have HZ := Lib.hid Z
  clear ha hb lx ly X Y K Z hb2
  go_enter Try.func19, Try.ntmps19
  go_wp2_with fail
  refine (HX.out _).out.mono ?_
  rintro e w' ⟨rfl, rfl⟩
  go_wp2_with fail
  refine (HY.out _).out.mono ?_
  rintro e w' ⟨rfl, rfl⟩
  go_wp2_with fail
  refine (HK.out _).out.mono ?_
  rintro e w' ⟨rfl, n, rfl⟩
  go_wp2_with fail
  refine (HZ.out _).out.mono ?_
  rintro e w' ⟨rfl, rfl⟩
  go_wp2_with fail
  go_ret2
  exact ⟨rfl, by first | exact ((Chg.refl _ _).alloc _).drewN _ | exact (((Chg.refl _ _).alloc _).alloc _).drewN _⟩

set_option maxRecDepth 100000 in
set_option maxHeartbeats 800000 in
theorem rreckon_58 (w : World) (a b : Nat) (ha : a < 18446744073709551616) (hb : b < 18446744073709551616) :
    Calls Try.prog 19 #[.int .i64 58, .int .u64 a, .int .u64 b] w (RfPost w (wRk 58 a b) true) := by
  have e : wRk 58 a b = wSign (wWide 50 (wSign a 32) (wSign b 32)) 32 := by simp [wRk, wNar]
  rw [e]
  clear e
  have X := fun W => Lib.hid (ref_sign W a ha 32)
  have Y := fun W => Lib.hid (ref_sign W b hb 32)
  have lx := wSign_lt a 32 ha
  have ly := wSign_lt b 32 hb
  generalize wSign a 32 = x at *
  generalize wSign b 32 = y at *
  have K := fun W => Lib.hid (rwide_50 W x y lx ly)
  have Z := fun W => Lib.hid (ref_sign W _ (wWide_lt 50 x y lx ly) 32)
  generalize wWide 50 x y = g at *
  generalize wSign g 32 = z at *
  have HX := Lib.hid X; have HY := Lib.hid Y; have HK := Lib.hid K; have HZ := Lib.hid Z
  clear ha hb lx ly X Y K Z
  go_enter Try.func19, Try.ntmps19
  go_wp2_with fail
  refine (HX.out _).out.mono ?_
  rintro e w' ⟨rfl, rfl⟩
  go_wp2_with fail
  refine (HY.out _).out.mono ?_
  rintro e w' ⟨rfl, rfl⟩
  go_wp2_with fail
  refine (HK.out _).out.mono ?_
  rintro e w' ⟨rfl, n, rfl⟩
  go_wp2_with fail
  refine (HZ.out _).out.mono ?_
  rintro e w' ⟨rfl, rfl⟩
  go_wp2_with fail
  go_ret2
  exact ⟨rfl, by first | exact ((Chg.refl _ _).alloc _).drewN _ | exact (((Chg.refl _ _).alloc _).alloc _).drewN _⟩

set_option maxRecDepth 100000 in
set_option maxHeartbeats 800000 in
theorem rreckon_59 (w : World) (a b : Nat) (ha : a < 18446744073709551616) (hb : b < 18446744073709551616) :
    Calls Try.prog 19 #[.int .i64 59, .int .u64 a, .int .u64 b] w (RfPost w (wRk 59 a b) true) := by
  have e : wRk 59 a b = wSign (wWide 54 (wSign a 32) (wSign b 32)) 32 := by simp [wRk, wNar]
  rw [e]
  clear e
  have X := fun W => Lib.hid (ref_sign W a ha 32)
  have Y := fun W => Lib.hid (ref_sign W b hb 32)
  have lx := wSign_lt a 32 ha
  have ly := wSign_lt b 32 hb
  generalize wSign a 32 = x at *
  generalize wSign b 32 = y at *
  have K := fun W => Lib.hid (rwide_54 W x y lx ly)
  have Z := fun W => Lib.hid (ref_sign W _ (wWide_lt 54 x y lx ly) 32)
  generalize wWide 54 x y = g at *
  generalize wSign g 32 = z at *
  have HX := Lib.hid X; have HY := Lib.hid Y; have HK := Lib.hid K; have HZ := Lib.hid Z
  clear ha hb lx ly X Y K Z
  go_enter Try.func19, Try.ntmps19
  go_wp2_with fail
  refine (HX.out _).out.mono ?_
  rintro e w' ⟨rfl, rfl⟩
  go_wp2_with fail
  refine (HY.out _).out.mono ?_
  rintro e w' ⟨rfl, rfl⟩
  go_wp2_with fail
  refine (HK.out _).out.mono ?_
  rintro e w' ⟨rfl, n, rfl⟩
  go_wp2_with fail
  refine (HZ.out _).out.mono ?_
  rintro e w' ⟨rfl, rfl⟩
  go_wp2_with fail
  go_ret2
  exact ⟨rfl, by first | exact ((Chg.refl _ _).alloc _).drewN _ | exact (((Chg.refl _ _).alloc _).alloc _).drewN _⟩

set_option maxRecDepth 100000 in
set_option maxHeartbeats 800000 in
theorem rreckon_60 (w : World) (a b : Nat) (ha : a < 18446744073709551616) (hb : b < 18446744073709551616) :
    Calls Try.prog 19 #[.int .i64 60, .int .u64 a, .int .u64 b] w (RfPost w (wRk 60 a b) true) := by
  have e : wRk 60 a b = wSign (wWide 55 (wLow (wSign a 32) 32) (wLow (wSign b 32) 32)) 32 := by simp [wRk, wNar]
  rw [e]
  clear e
  rw [low_sign, low_sign]
  have X := fun W => Lib.hid (ref_sign W a ha 32)
  have Y := fun W => Lib.hid (ref_sign W b hb 32)
  have lx := wSign_lt a 32 ha
  have ly := wSign_lt b 32 hb
  have X2 := fun W => Lib.hid (ref_low W a 32)
  have Y2 := fun W => Lib.hid (ref_low W b 32)
  have lx2 := wLow_lt a 32 ha
  have ly2 := wLow_lt b 32 hb
  generalize wLow a 32 = x2 at *
  generalize wLow b 32 = y2 at *
  have HX2 := Lib.hid X2; have HY2 := Lib.hid Y2
  clear X2 Y2
  generalize wSign a 32 = x at *
  generalize wSign b 32 = y at *
  have K := fun W => Lib.hid (rwide_55 W x2 y2 lx2 ly2)
  have Z := fun W => Lib.hid (ref_sign W _ (wWide_lt 55 x2 y2 lx2 ly2) 32)
  generalize wWide 55 x2 y2 = g at *
  generalize wSign g 32 = z at *
  have HX := Lib.hid X; have HY := Lib.hid Y; have HK := Lib.hid K; have HZ := Lib.hid Z
  clear ha hb lx ly X Y K Z lx2 ly2
  go_enter Try.func19, Try.ntmps19
  go_wp2_with fail
  refine (HX.out _).out.mono ?_
  rintro e w' ⟨rfl, rfl⟩
  go_wp2_with fail
  refine (HY.out _).out.mono ?_
  rintro e w' ⟨rfl, rfl⟩
  go_wp2_with fail
  refine (HX2.out _).out.mono ?_
  rintro e w' ⟨rfl, rfl⟩
  go_wp2_with fail
  refine (HY2.out _).out.mono ?_
  rintro e w' ⟨rfl, rfl⟩
  go_wp2_with fail
  refine (HK.out _).out.mono ?_
  rintro e w' ⟨rfl, n, rfl⟩
  go_wp2_with fail
  refine (HZ.out _).out.mono ?_
  rintro e w' ⟨rfl, rfl⟩
  go_wp2_with fail
  go_ret2
  exact ⟨rfl, by first | exact ((Chg.refl _ _).alloc _).drewN _ | exact (((Chg.refl _ _).alloc _).alloc _).drewN _⟩

set_option maxRecDepth 100000 in
set_option maxHeartbeats 800000 in
theorem rreckon_61 (w : World) (a b : Nat) (ha : a < 18446744073709551616) (hb : b < 18446744073709551616) :
    Calls Try.prog 19 #[.int .i64 61, .int .u64 a, .int .u64 b] w (RfPost w (wRk 61 a b) true) := by
  have e : wRk 61 a b = wSign (wWide 56 (wSign a 32) (wSign b 32)) 32 := by simp [wRk, wNar]
  rw [e]
  clear e
  have X := fun W => Lib.hid (ref_sign W a ha 32)
  have Y := fun W => Lib.hid (ref_sign W b hb 32)
  have lx := wSign_lt a 32 ha
  have ly := wSign_lt b 32 hb
  generalize wSign a 32 = x at *
  generalize wSign b 32 = y at *
  have K := fun W => Lib.hid (rwide_56 W x y lx ly)
  have Z := fun W => Lib.hid (ref_sign W _ (wWide_lt 56 x y lx ly) 32)
  generalize wWide 56 x y = g at *
  generalize wSign g 32 = z at *
  have HX := Lib.hid X; have HY := Lib.hid Y; have HK := Lib.hid K; have HZ := Lib.hid Z
  clear ha hb lx ly X Y K Z
  go_enter Try.func19, Try.ntmps19
  go_wp2_with fail
  refine (HX.out _).out.mono ?_
  rintro e w' ⟨rfl, rfl⟩
  go_wp2_with fail
  refine (HY.out _).out.mono ?_
  rintro e w' ⟨rfl, rfl⟩
  go_wp2_with fail
  refine (HK.out _).out.mono ?_
  rintro e w' ⟨rfl, n, rfl⟩
  go_wp2_with fail
  refine (HZ.out _).out.mono ?_
  rintro e w' ⟨rfl, rfl⟩
  go_wp2_with fail
  go_ret2
  exact ⟨rfl, by first | exact ((Chg.refl _ _).alloc _).drewN _ | exact (((Chg.refl _ _).alloc _).alloc _).drewN _⟩

set_option maxRecDepth 100000 in
set_option maxHeartbeats 800000 in
theorem rreckon_62 (w : World) (a b : Nat) (ha : a < 18446744073709551616) (hb : b < 18446744073709551616) :
    Calls Try.prog 19 #[.int .i64 62, .int .u64 a, .int .u64 b] w (RfPost w (wRk 62 a b) true) := by
  have e : wRk 62 a b = wSign (wWide 57 (wLow (wSign a 32) 32) (wLow (wSign b 32) 32)) 32 := by simp [wRk, wNar]
  rw [e]
  clear e
  rw [low_sign, low_sign]
  have X := fun W => Lib.hid (ref_sign W a ha 32)
  have Y := fun W => Lib.hid (ref_sign W b hb 32)
  have lx := wSign_lt a 32 ha
  have ly := wSign_lt b 32 hb
  have X2 := fun W => Lib.hid (ref_low W a 32)
  have Y2 := fun W => Lib.hid (ref_low W b 32)
  have lx2 := wLow_lt a 32 ha
  have ly2 := wLow_lt b 32 hb
  generalize wLow a 32 = x2 at *
  generalize wLow b 32 = y2 at *
  have HX2 := Lib.hid X2; have HY2 := Lib.hid Y2
  clear X2 Y2
  generalize wSign a 32 = x at *
  generalize wSign b 32 = y at *
  have K := fun W => Lib.hid (rwide_57 W x2 y2 lx2 ly2)
  have Z := fun W => Lib.hid (ref_sign W _ (wWide_lt 57 x2 y2 lx2 ly2) 32)
  generalize wWide 57 x2 y2 = g at *
  generalize wSign g 32 = z at *
  have HX := Lib.hid X; have HY := Lib.hid Y; have HK := Lib.hid K; have HZ := Lib.hid Z
  clear ha hb lx ly X Y K Z lx2 ly2
  go_enter Try.func19, Try.ntmps19
  go_wp2_with fail
  refine (HX.out _).out.mono ?_
  rintro e w' ⟨rfl, rfl⟩
  go_wp2_with fail
  refine (HY.out _).out.mono ?_
  rintro e w' ⟨rfl, rfl⟩
  go_wp2_with fail
  refine (HX2.out _).out.mono ?_
  rintro e w' ⟨rfl, rfl⟩
  go_wp2_with fail
  refine (HY2.out _).out.mono ?_
  rintro e w' ⟨rfl, rfl⟩
  go_wp2_with fail
  refine (HK.out _).out.mono ?_
  rintro e w' ⟨rfl, n, rfl⟩
  go_wp2_with fail
  refine (HZ.out _).out.mono ?_
  rintro e w' ⟨rfl, rfl⟩
  go_wp2_with fail
  go_ret2
  exact ⟨rfl, by first | exact ((Chg.refl _ _).alloc _).drewN _ | exact (((Chg.refl _ _).alloc _).alloc _).drewN _⟩

theorem rreckon_all (w : World) (op : Int) (a b : Nat) (ha : a < 18446744073709551616) (hb : b < 18446744073709551616) (h1 : 35 ≤ op) (h2 : op ≤ 62) :
    Calls Try.prog 19 #[.int .i64 op, .int .u64 a, .int .u64 b] w (RfPost w (wRk op a b) true) := by
  have h : op = 35 ∨ op = 36 ∨ op = 37 ∨ op = 38 ∨ op = 39 ∨ op = 40 ∨ op = 41 ∨ op = 42 ∨ op = 43 ∨ op = 44 ∨ op = 45 ∨ op = 46 ∨ op = 47 ∨ op = 48 ∨ op = 49 ∨ op = 50 ∨ op = 51 ∨ op = 52 ∨ op = 53 ∨ op = 54 ∨ op = 55 ∨ op = 56 ∨ op = 57 ∨ op = 58 ∨ op = 59 ∨ op = 60 ∨ op = 61 ∨ op = 62 := by omega
  rcases h with rfl | rfl | rfl | rfl | rfl | rfl | rfl | rfl | rfl | rfl | rfl | rfl | rfl | rfl | rfl | rfl | rfl | rfl | rfl | rfl | rfl | rfl | rfl | rfl | rfl | rfl | rfl | rfl
  · exact rreckon_35 w a b ha hb
  · exact rreckon_36 w a b ha hb
  · exact rreckon_37 w a b ha hb
  · exact rreckon_38 w a b ha hb
  · exact rreckon_39 w a b ha hb
  · exact rreckon_40 w a b ha hb
  · exact rreckon_41 w a b ha hb
  · exact rreckon_42 w a b ha hb
  · exact rreckon_43 w a b ha hb
  · exact rreckon_44 w a b ha hb
  · exact rreckon_45 w a b ha hb
  · exact rreckon_46 w a b ha hb
  · exact rreckon_47 w a b ha hb
  · exact rreckon_48 w a b ha hb
  · exact rreckon_49 w a b ha hb
  · exact rreckon_50 w a b ha hb
  · exact rreckon_51 w a b ha hb
  · exact rreckon_52 w a b ha hb
  · exact rreckon_53 w a b ha hb
  · exact rreckon_54 w a b ha hb
  · exact rreckon_55 w a b ha hb
  · exact rreckon_56 w a b ha hb
  · exact rreckon_57 w a b ha hb
  · exact rreckon_58 w a b ha hb
  · exact rreckon_59 w a b ha hb
  · exact rreckon_60 w a b ha hb
  · exact rreckon_61 w a b ha hb
  · exact rreckon_62 w a b ha hb

theorem ref_reckon (w : World) (op : Int) (a b : Nat) (ha : a < 18446744073709551616) (hb : b < 18446744073709551616) :
    Calls Try.prog 19 #[.int .i64 op, .int .u64 a, .int .u64 b] w (RfPost w (wReckon op a b) (wOk op)) := by
  by_cases h1 : 35 ≤ op
  · by_cases h2 : op ≤ 62
    · have e : wOk op = true := by simp [wOk, h1, h2]
      rw [wReckon, e]
      exact rreckon_all w op a b ha hb h1 h2
    · have e : wOk op = false := by simp [wOk, h2]
      rw [wReckon, e]
      exact rreckon_no w op a b (by omega)
  · have e : wOk op = false := by simp [wOk, h1]
    rw [wReckon, e]
    exact rreckon_no w op a b (by omega)
end Go.Proofs.Ytcpmjgjefhpgkaa
