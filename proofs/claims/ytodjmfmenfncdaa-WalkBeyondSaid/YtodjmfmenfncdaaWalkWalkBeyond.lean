/-
  The walk of the statement WalkBeyond: true, for every input.
-/
import Derived.Test.YtodjmfmenfncdaaTbShown
namespace Go.Proofs.Ytodjmfmenfncdaa
open Go.RowKit

set_option maxRecDepth 100000 in
set_option maxHeartbeats 1600000 in
theorem walkBeyond_lo (w : World) (a0 : Option Addr) (len0 cap0 : Nat) (V0 : Nat → Nat → Value) (s0 : SRow w a0 len0 2 V0)
    (t0 : ∀ i, i < len0 → ∃ x : Int, V0 i 0 = .int .u64 x ∧ (Lit.int .u64 x).wf = true) (t1 : ∀ i, i < len0 → ∃ x : Int, V0 i 1 = .int .u64 x ∧ (Lit.int .u64 x).wf = true)
    (hlen : len0 < 9223372036854775807) (a : Nat) (ha : a < 8388608) (_ha2 : a < 18446744073709551616) (acc : Int) :
    Calls Try.prog 5 #[.slice a0 len0 cap0, .int .u64 a, .int .i64 acc] w fun e w' => e = .returned (.bool true) ∧ Below w.heap.size w w' := by
  have LF0 := fun W p r B V (H : PX (fun k => k < B) W p r 8 V V) => leaf_beyond _ W p r 8 V V H 0 (by omega) (a + 8388608) (by omega)
  have P00 := fun W => tb_part_out W (a + 8388608) (by omega) 0 (by omega)
  have P10 := fun W => tb_part_out W (a + 8388608) (by omega) 1 (by omega)
  have A10 := fun W p r B V (H : PX (fun k => k < B) W p r 8 V V) => wwalk_beyond1 _ W p r 8 V V H (by omega) 0 (by omega) (a + 8388608) (by omega)
  have A20 := fun W p r B V (H : PX (fun k => k < B) W p r 8 V V) => wwalk_beyond2 _ W p r 8 V V H (by omega) 0 (by omega) (a + 8388608) (by omega)
  have A30 := fun W p r B V (H : PX (fun k => k < B) W p r 8 V V) => wwalk_beyond3 _ W p r 8 V V H (by omega) 0 (by omega) (a + 8388608) (by omega)
  have AN0 := fun W p r B V (H : PX (fun k => k < B) W p r 8 V V) hacc => wwalk_acc _ W p r 8 V V H 0 (by omega) ((a + 8388608 : Nat) : Int) acc hacc
  rw [show ((0 : Nat) : Int) = 0 from rfl] at LF0 A10 A20 A30 AN0
  have e : ((a + 8388608 : Nat) : Int) = (a : Int) + 8388608 := by omega
  rw [e] at LF0 P00 P10 A10 A20 A30 AN0
  have d1 : decide ((a : Int) < (8388608 : Int)) = true := decide_eq_true (by omega)
  have q1 : IntKind.u64.wrap ((a : Int) + 8388608) = (a : Int) + 8388608 := by rw [u64_wrap]; omega
  have LF := Lib.hid (fun W p r B {V} H => LF0 W p r B V H); have P0 := Lib.hid P00; have P1 := Lib.hid P10; have A1 := Lib.hid A10; have A2 := Lib.hid A20; have A3 := Lib.hid A30; have AN := Lib.hid AN0
  have S0 := Lib.hid s0; have T0 := Lib.hid t0; have T1 := Lib.hid t1
  clear s0 t0 t1 LF0 P00 P10 A10 A20 A30 AN0
  by_cases c1 : acc = 1
  · subst c1
    go_enter Try.func5, Try.ntmps5
    go_wp2_with fail
    refine (tshown w).mono ?_
    rintro e w1 ⟨rfl, b1⟩
    have s1 := S0.out.chg (Nat.le_refl _) b1
    have HL := Lib.hid (law_memory w1 a0 len0 cap0 V0 s1 T0.out T1.out (by omega))
    have B1 := Lib.hid b1; clear b1 s1
    generalize memF V0 len0 = V at *
    go_wp2_with fail
    refine HL.out.mono ?_
    rintro e w2 ⟨p, r, rfl, m2, b2⟩
    have M2 := Lib.hid m2; have B2 := Lib.hid (B1.out.trans (b2.mono B1.out.size)); clear m2 b2
    go_wp2_with fail
    refine (A1.out w2 p r _ _ M2.out).mono ?_
    rintro e w' ⟨rfl, rfl⟩
    go_wp2_with fail
    refine (LF.out w2 p r _ M2.out).mono ?_
    rintro e w' ⟨rfl, rfl⟩
    go_wp2_with fail
    refine (P0.out w2).mono ?_
    rintro e w' ⟨rfl, rfl⟩
    go_wp2_with fail
    refine (P1.out w2).mono ?_
    rintro e w' ⟨rfl, rfl⟩
    go_wp2_with fail
    go_ret
    exact ⟨rfl, B2.out⟩
  by_cases c2 : acc = 2
  · subst c2
    go_enter Try.func5, Try.ntmps5
    go_wp2_with fail
    refine (tshown w).mono ?_
    rintro e w1 ⟨rfl, b1⟩
    have s1 := S0.out.chg (Nat.le_refl _) b1
    have HL := Lib.hid (law_memory w1 a0 len0 cap0 V0 s1 T0.out T1.out (by omega))
    have B1 := Lib.hid b1; clear b1 s1
    generalize memF V0 len0 = V at *
    go_wp2_with fail
    refine HL.out.mono ?_
    rintro e w2 ⟨p, r, rfl, m2, b2⟩
    have M2 := Lib.hid m2; have B2 := Lib.hid (B1.out.trans (b2.mono B1.out.size)); clear m2 b2
    go_wp2_with fail
    refine (A2.out w2 p r _ _ M2.out).mono ?_
    rintro e w' ⟨rfl, rfl⟩
    go_wp2_with fail
    refine (LF.out w2 p r _ M2.out).mono ?_
    rintro e w' ⟨rfl, rfl⟩
    go_wp2_with fail
    refine (P0.out w2).mono ?_
    rintro e w' ⟨rfl, rfl⟩
    go_wp2_with fail
    refine (P1.out w2).mono ?_
    rintro e w' ⟨rfl, rfl⟩
    go_wp2_with fail
    go_ret
    exact ⟨rfl, B2.out⟩
  by_cases c3 : acc = 3
  · subst c3
    go_enter Try.func5, Try.ntmps5
    go_wp2_with fail
    refine (tshown w).mono ?_
    rintro e w1 ⟨rfl, b1⟩
    have s1 := S0.out.chg (Nat.le_refl _) b1
    have HL := Lib.hid (law_memory w1 a0 len0 cap0 V0 s1 T0.out T1.out (by omega))
    have B1 := Lib.hid b1; clear b1 s1
    generalize memF V0 len0 = V at *
    go_wp2_with fail
    refine HL.out.mono ?_
    rintro e w2 ⟨p, r, rfl, m2, b2⟩
    have M2 := Lib.hid m2; have B2 := Lib.hid (B1.out.trans (b2.mono B1.out.size)); clear m2 b2
    go_wp2_with fail
    refine (A3.out w2 p r _ _ M2.out).mono ?_
    rintro e w' ⟨rfl, rfl⟩
    go_wp2_with fail
    refine (LF.out w2 p r _ M2.out).mono ?_
    rintro e w' ⟨rfl, rfl⟩
    go_wp2_with fail
    refine (P0.out w2).mono ?_
    rintro e w' ⟨rfl, rfl⟩
    go_wp2_with fail
    refine (P1.out w2).mono ?_
    rintro e w' ⟨rfl, rfl⟩
    go_wp2_with fail
    go_ret
    exact ⟨rfl, B2.out⟩
  have hacc : acc ≠ 1 ∧ acc ≠ 2 ∧ acc ≠ 3 := ⟨c1, c2, c3⟩
  have HACC := Lib.hid hacc
  clear c1 c2 c3 hacc
  go_enter Try.func5, Try.ntmps5
  go_wp2_with fail
  refine (tshown w).mono ?_
  rintro e w1 ⟨rfl, b1⟩
  have s1 := S0.out.chg (Nat.le_refl _) b1
  have HL := Lib.hid (law_memory w1 a0 len0 cap0 V0 s1 T0.out T1.out (by omega))
  have B1 := Lib.hid b1; clear b1 s1
  generalize memF V0 len0 = V at *
  go_wp2_with fail
  refine HL.out.mono ?_
  rintro e w2 ⟨p, r, rfl, m2, b2⟩
  have M2 := Lib.hid m2; have B2 := Lib.hid (B1.out.trans (b2.mono B1.out.size)); clear m2 b2
  go_wp2_with fail
  refine (AN.out w2 p r _ _ M2.out HACC.out).mono ?_
  rintro e w' ⟨rfl, rfl⟩
  go_wp2_with fail
  refine (LF.out w2 p r _ M2.out).mono ?_
  rintro e w' ⟨rfl, rfl⟩
  go_wp2_with fail
  refine (P0.out w2).mono ?_
  rintro e w' ⟨rfl, rfl⟩
  go_wp2_with fail
  refine (P1.out w2).mono ?_
  rintro e w' ⟨rfl, rfl⟩
  go_wp2_with fail
  go_ret
  exact ⟨rfl, B2.out⟩
set_option maxRecDepth 100000 in
set_option maxHeartbeats 1600000 in
theorem walkBeyond_hi (w : World) (a0 : Option Addr) (len0 cap0 : Nat) (V0 : Nat → Nat → Value) (s0 : SRow w a0 len0 2 V0)
    (t0 : ∀ i, i < len0 → ∃ x : Int, V0 i 0 = .int .u64 x ∧ (Lit.int .u64 x).wf = true) (t1 : ∀ i, i < len0 → ∃ x : Int, V0 i 1 = .int .u64 x ∧ (Lit.int .u64 x).wf = true)
    (hlen : len0 < 9223372036854775807) (a : Nat) (ha : 8388608 ≤ a) (ha2 : a < 18446744073709551616) (acc : Int) :
    Calls Try.prog 5 #[.slice a0 len0 cap0, .int .u64 a, .int .i64 acc] w fun e w' => e = .returned (.bool true) ∧ Below w.heap.size w w' := by
  have LF0 := fun W p r B V (H : PX (fun k => k < B) W p r 8 V V) => leaf_beyond _ W p r 8 V V H 0 (by omega) a (by omega)
  have P00 := fun W => tb_part_out W a (by omega) 0 (by omega)
  have P10 := fun W => tb_part_out W a (by omega) 1 (by omega)
  have A10 := fun W p r B V (H : PX (fun k => k < B) W p r 8 V V) => wwalk_beyond1 _ W p r 8 V V H (by omega) 0 (by omega) a (by omega)
  have A20 := fun W p r B V (H : PX (fun k => k < B) W p r 8 V V) => wwalk_beyond2 _ W p r 8 V V H (by omega) 0 (by omega) a (by omega)
  have A30 := fun W p r B V (H : PX (fun k => k < B) W p r 8 V V) => wwalk_beyond3 _ W p r 8 V V H (by omega) 0 (by omega) a (by omega)
  have AN0 := fun W p r B V (H : PX (fun k => k < B) W p r 8 V V) hacc => wwalk_acc _ W p r 8 V V H 0 (by omega) (a : Int) acc hacc
  rw [show ((0 : Nat) : Int) = 0 from rfl] at LF0 A10 A20 A30 AN0
  have d1 : decide ((a : Int) < (8388608 : Int)) = false := decide_eq_false (by omega)
  have d2 : ¬ a < 8388608 := by omega
  have LF := Lib.hid (fun W p r B {V} H => LF0 W p r B V H); have P0 := Lib.hid P00; have P1 := Lib.hid P10; have A1 := Lib.hid A10; have A2 := Lib.hid A20; have A3 := Lib.hid A30; have AN := Lib.hid AN0
  have S0 := Lib.hid s0; have T0 := Lib.hid t0; have T1 := Lib.hid t1
  clear s0 t0 t1 LF0 P00 P10 A10 A20 A30 AN0
  by_cases c1 : acc = 1
  · subst c1
    go_enter Try.func5, Try.ntmps5
    go_wp2_with fail
    refine (tshown w).mono ?_
    rintro e w1 ⟨rfl, b1⟩
    have s1 := S0.out.chg (Nat.le_refl _) b1
    have HL := Lib.hid (law_memory w1 a0 len0 cap0 V0 s1 T0.out T1.out (by omega))
    have B1 := Lib.hid b1; clear b1 s1
    generalize memF V0 len0 = V at *
    go_wp2_with fail
    refine HL.out.mono ?_
    rintro e w2 ⟨p, r, rfl, m2, b2⟩
    have M2 := Lib.hid m2; have B2 := Lib.hid (B1.out.trans (b2.mono B1.out.size)); clear m2 b2
    go_wp2_with fail
    refine (A1.out w2 p r _ _ M2.out).mono ?_
    rintro e w' ⟨rfl, rfl⟩
    go_wp2_with fail
    refine (LF.out w2 p r _ M2.out).mono ?_
    rintro e w' ⟨rfl, rfl⟩
    go_wp2_with fail
    refine (P0.out w2).mono ?_
    rintro e w' ⟨rfl, rfl⟩
    go_wp2_with fail
    refine (P1.out w2).mono ?_
    rintro e w' ⟨rfl, rfl⟩
    go_wp2_with fail
    go_ret
    exact ⟨rfl, B2.out⟩
  by_cases c2 : acc = 2
  · subst c2
    go_enter Try.func5, Try.ntmps5
    go_wp2_with fail
    refine (tshown w).mono ?_
    rintro e w1 ⟨rfl, b1⟩
    have s1 := S0.out.chg (Nat.le_refl _) b1
    have HL := Lib.hid (law_memory w1 a0 len0 cap0 V0 s1 T0.out T1.out (by omega))
    have B1 := Lib.hid b1; clear b1 s1
    generalize memF V0 len0 = V at *
    go_wp2_with fail
    refine HL.out.mono ?_
    rintro e w2 ⟨p, r, rfl, m2, b2⟩
    have M2 := Lib.hid m2; have B2 := Lib.hid (B1.out.trans (b2.mono B1.out.size)); clear m2 b2
    go_wp2_with fail
    refine (A2.out w2 p r _ _ M2.out).mono ?_
    rintro e w' ⟨rfl, rfl⟩
    go_wp2_with fail
    refine (LF.out w2 p r _ M2.out).mono ?_
    rintro e w' ⟨rfl, rfl⟩
    go_wp2_with fail
    refine (P0.out w2).mono ?_
    rintro e w' ⟨rfl, rfl⟩
    go_wp2_with fail
    refine (P1.out w2).mono ?_
    rintro e w' ⟨rfl, rfl⟩
    go_wp2_with fail
    go_ret
    exact ⟨rfl, B2.out⟩
  by_cases c3 : acc = 3
  · subst c3
    go_enter Try.func5, Try.ntmps5
    go_wp2_with fail
    refine (tshown w).mono ?_
    rintro e w1 ⟨rfl, b1⟩
    have s1 := S0.out.chg (Nat.le_refl _) b1
    have HL := Lib.hid (law_memory w1 a0 len0 cap0 V0 s1 T0.out T1.out (by omega))
    have B1 := Lib.hid b1; clear b1 s1
    generalize memF V0 len0 = V at *
    go_wp2_with fail
    refine HL.out.mono ?_
    rintro e w2 ⟨p, r, rfl, m2, b2⟩
    have M2 := Lib.hid m2; have B2 := Lib.hid (B1.out.trans (b2.mono B1.out.size)); clear m2 b2
    go_wp2_with fail
    refine (A3.out w2 p r _ _ M2.out).mono ?_
    rintro e w' ⟨rfl, rfl⟩
    go_wp2_with fail
    refine (LF.out w2 p r _ M2.out).mono ?_
    rintro e w' ⟨rfl, rfl⟩
    go_wp2_with fail
    refine (P0.out w2).mono ?_
    rintro e w' ⟨rfl, rfl⟩
    go_wp2_with fail
    refine (P1.out w2).mono ?_
    rintro e w' ⟨rfl, rfl⟩
    go_wp2_with fail
    go_ret
    exact ⟨rfl, B2.out⟩
  have hacc : acc ≠ 1 ∧ acc ≠ 2 ∧ acc ≠ 3 := ⟨c1, c2, c3⟩
  have HACC := Lib.hid hacc
  clear c1 c2 c3 hacc
  go_enter Try.func5, Try.ntmps5
  go_wp2_with fail
  refine (tshown w).mono ?_
  rintro e w1 ⟨rfl, b1⟩
  have s1 := S0.out.chg (Nat.le_refl _) b1
  have HL := Lib.hid (law_memory w1 a0 len0 cap0 V0 s1 T0.out T1.out (by omega))
  have B1 := Lib.hid b1; clear b1 s1
  generalize memF V0 len0 = V at *
  go_wp2_with fail
  refine HL.out.mono ?_
  rintro e w2 ⟨p, r, rfl, m2, b2⟩
  have M2 := Lib.hid m2; have B2 := Lib.hid (B1.out.trans (b2.mono B1.out.size)); clear m2 b2
  go_wp2_with fail
  refine (AN.out w2 p r _ _ M2.out HACC.out).mono ?_
  rintro e w' ⟨rfl, rfl⟩
  go_wp2_with fail
  refine (LF.out w2 p r _ M2.out).mono ?_
  rintro e w' ⟨rfl, rfl⟩
  go_wp2_with fail
  refine (P0.out w2).mono ?_
  rintro e w' ⟨rfl, rfl⟩
  go_wp2_with fail
  refine (P1.out w2).mono ?_
  rintro e w' ⟨rfl, rfl⟩
  go_wp2_with fail
  go_ret
  exact ⟨rfl, B2.out⟩
theorem walkBeyond_walk (w : World) (a0 : Option Addr) (len0 cap0 : Nat) (V0 : Nat → Nat → Value) (s0 : SRow w a0 len0 2 V0)
    (t0 : ∀ i, i < len0 → ∃ x : Int, V0 i 0 = .int .u64 x ∧ (Lit.int .u64 x).wf = true) (t1 : ∀ i, i < len0 → ∃ x : Int, V0 i 1 = .int .u64 x ∧ (Lit.int .u64 x).wf = true)
    (y0 : len0 * Try.prog.bytesOf 40 ≤ 140737488351232) (at_ : Int) (w1 : (Lit.int .u64 at_).wf = true) (acc : Int) (_w2 : (Lit.int .i64 acc).wf = true) :
    Calls Try.prog 5 #[.slice a0 len0 cap0, .int .u64 at_, .int .i64 acc] w fun e w' => e = .returned (.bool true) ∧ Below w.heap.size w w' := by
  have hlen : len0 < 9223372036854775807 := by
    have e : Try.prog.bytesOf 40 = 16 := by kernel_rfl
    rw [e] at y0; omega
  obtain ⟨a, rfl, ha⟩ := u64_nat' w1
  by_cases h : a < 8388608
  · exact walkBeyond_lo w a0 len0 cap0 V0 s0 t0 t1 hlen a h ha acc
  · exact walkBeyond_hi w a0 len0 cap0 V0 s0 t0 t1 hlen a (by omega) ha acc
end Go.Proofs.Ytodjmfmenfncdaa
