/-
  The walk of the statement WalkFinds: true, for every input.
-/
import Derived.Test.YtodjmfmenfncdaaTyShown
namespace Go.Proofs.Ytodjmfmenfncdaa
open Go.RowKit

theorem lfVal_form (x : Option Nat) : ∃ a c : Int, lfVal x = .tuple #[.int .u64 a, .int .i64 c] := by
  cases x with
  | none => exact ⟨0, 3, rfl⟩
  | some a => exact ⟨(a : Nat), 0, rfl⟩
theorem lfR_form (V : Nat → Nat) (F : Nat) (root : Int) (at_ : Nat) : ∃ a c : Int, lfR V F root at_ = .tuple #[.int .u64 a, .int .i64 c] := by
  unfold lfR
  split
  · exact ⟨0, 1, rfl⟩
  · split
    · exact ⟨0, 3, rfl⟩
    · exact lfVal_form _
theorem wkR_form (V : Nat → Nat) (F : Nat) (root : Int) (at_ : Nat) (acc : Int) : ∃ a c : Int, wkR V F root at_ acc = .tuple #[.int .u64 a, .int .i64 c] := by
  unfold wkR
  split
  · exact ⟨0, 1, rfl⟩
  · split
    · exact ⟨0, 3, rfl⟩
    · exact lfVal_form _

set_option maxRecDepth 100000 in
set_option maxHeartbeats 1600000 in
theorem walkFinds_walk (w : World) (a0 : Option Addr) (len0 cap0 : Nat) (V0 : Nat → Nat → Value) (s0 : SRow w a0 len0 2 V0)
    (t0 : ∀ i, i < len0 → ∃ x : Int, V0 i 0 = .int .u64 x ∧ (Lit.int .u64 x).wf = true) (t1 : ∀ i, i < len0 → ∃ x : Int, V0 i 1 = .int .u64 x ∧ (Lit.int .u64 x).wf = true)
    (y0 : len0 ≤ 9223372036854775807) (root : Int) (_w1 : (Lit.int .i64 root).wf = true) (aA : Int) (w2 : (Lit.int .u64 aA).wf = true) (acc : Int) (_w3 : (Lit.int .i64 acc).wf = true) :
    Calls Try.prog 7 #[.agg #[.slice a0 len0 cap0, .int .i64 root, .int .u64 aA, .int .i64 acc]] w fun e w' => e = .returned (.bool true) ∧ Below w.heap.size w w' := by
  obtain ⟨a, rfl, ha⟩ := u64_nat' w2
  have S0 := Lib.hid s0; have T0 := Lib.hid t0; have T1 := Lib.hid t1
  clear s0 t0 t1 w2 ha
  go_enter Try.func7, Try.ntmps7
  go_wp2_with fail
  refine (tshown _).mono ?_
  rintro e w1 ⟨rfl, b1⟩
  have b1' := ((Below.refl w.heap.size w).alloc (Nat.le_refl _) _).trans (b1.mono (by simp))
  have s1 := S0.out.chg (Nat.le_refl _) b1'
  have HL := Lib.hid (law_memory w1 a0 len0 cap0 V0 s1 T0.out T1.out y0)
  have B1 := Lib.hid b1'; clear b1 b1' s1
  generalize memF V0 len0 = V at *
  go_wp2_with fail
  refine HL.out.mono ?_
  rintro e w2 ⟨p, r, rfl, m2, b2⟩
  have M2 := Lib.hid m2; have BB := Lib.hid b2; clear m2 b2
  have OLD := Lib.hid (fun (W W' : World) (h : Below w1.heap.size w1 W) (cc : Chg (fun k => ¬ k < w1.heap.size) W W') => h.trans (cc.below (B := w1.heap.size) h.size (fun _ h => Nat.le_of_not_lt h)))
  have K1 := fun W (H : PX (fun k => k < w1.heap.size) W p r 8 V V) => Lib.hid (x_lf _ W p r 8 V V H (by omega) root a)
  have K2 := fun W (H : PX (fun k => k < w1.heap.size) W p r 8 V V) => Lib.hid (x_rlf _ W p r 8 V V H (by omega) root a)
  have K3 := fun W (H : PX (fun k => k < w1.heap.size) W p r 8 V V) => Lib.hid (x_wk _ W p r 8 V V H (by omega) root a acc)
  have K4 := fun W (H : PX (fun k => k < w1.heap.size) W p r 8 V V) => Lib.hid (x_rwk _ W p r 8 V V H (by omega) root a acc)
  have K5 := fun W (H : PX (fun k => k < w1.heap.size) W p r 8 V V) => Lib.hid (x_getm H (by omega) 0 (by omega) 2048 (by omega) 0 rfl)
  have e5 : cdG 8 0 2048 = 0 := by decide
  have e6 : gtS 8 V 0 2048 = memStr V 0 (8 * 256) := by unfold gtS; rw [if_pos e5]; rfl
  rw [e5, e6] at K5
  have KF := fun W (H : PX (fun k => k < w1.heap.size) W p r 8 V V) => H.fields
  obtain ⟨x1, x2, hx⟩ := lfR_form V 8 root a
  obtain ⟨z1, z2, hz⟩ := wkR_form V 8 root a acc
  rw [hx] at K1 K2
  rw [hz] at K3 K4
  generalize memStr V 0 (8 * 256) = s at *
  have C1 := Lib.hid K1; have C2 := Lib.hid K2; have C3 := Lib.hid K3; have C4 := Lib.hid K4; have C5 := Lib.hid K5; have CF := Lib.hid KF
  clear K1 K2 K3 K4 K5 KF hx hz e5 e6
  go_wp2_with fail
  refine (C1.out _ M2.out).out.mono ?_
  rintro e w3 ⟨rfl, m3, c3⟩
  have M3 := Lib.hid m3; have B3 := Lib.hid (OLD.out _ _ BB.out c3); clear m3 c3
  go_wp2_with fail
  refine (C2.out _ M3.out).out.mono ?_
  rintro e w4 ⟨rfl, m3, c3⟩
  have M4 := Lib.hid m3; have B4 := Lib.hid (OLD.out _ _ B3.out c3); clear m3 c3
  go_wp2_with fail
  refine (C3.out _ M4.out).out.mono ?_
  rintro e w5 ⟨rfl, m3, c3⟩
  have M5 := Lib.hid m3; have B5 := Lib.hid (OLD.out _ _ B4.out c3); clear m3 c3
  go_wp2_with fail
  refine (C4.out _ M5.out).out.mono ?_
  rintro e w6 ⟨rfl, m3, c3⟩
  have M6 := Lib.hid m3; have B6 := Lib.hid (OLD.out _ _ B5.out c3); clear m3 c3
  go_wp2_with fail
  refine (C5.out _ M6.out).out.mono ?_
  rintro e w7 ⟨rfl, m3, c3⟩
  have M7 := Lib.hid m3; have B7 := Lib.hid (OLD.out _ _ B6.out c3); clear m3 c3
  obtain ⟨g, f1, f2⟩ := CF.out _ M7.out
  go_wp2_with fail
  go_ret
  exact ⟨ret_bool (by simp), B1.out.trans (B7.out.mono B1.out.size)⟩
end Go.Proofs.Ytodjmfmenfncdaa
