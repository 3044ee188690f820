/-
  The walk of the statement PhysSpans: true, for every input.
-/
import Derived.Test.YteamkchcpmoicaaPhActs
import Derived.Test.YteamkchcpmoicaaOpen
import Derived.Test.YteamkchcpmoicaaRefBytes
namespace Go.Proofs.Yteamkchcpmoicaa
open Go.RowKit

theorem memStr_add (V : Nat → Nat) (a n k : Nat) : memStr V a (n + k) = memStr V a n ++ memStr V (a + n) k := by
  unfold memStr
  rw [← strOfNums_append, List.range_add, List.map_append, List.map_map]
  congr 2
  apply List.map_congr_left
  intro i _
  simp [Nat.add_assoc]

set_option maxRecDepth 100000 in
set_option maxHeartbeats 1600000 in
theorem physSpans_walk (w : World) (a0 : Option Addr) (len0 cap0 : Nat) (V0 : Nat → Nat → Value) (s0 : SRow w a0 len0 6 V0)
    (t0 : ∀ i, i < len0 → ∃ x : Int, V0 i 0 = .int .i64 x ∧ (Lit.int .i64 x).wf = true) (_t1 : ∀ i, i < len0 → ∃ x : Int, V0 i 1 = .int .i64 x ∧ (Lit.int .i64 x).wf = true)
    (_t2 : ∀ i, i < len0 → ∃ x : Int, V0 i 2 = .int .i64 x ∧ (Lit.int .i64 x).wf = true) (t3 : ∀ i, i < len0 → ∃ x : Int, V0 i 3 = .int .u64 x ∧ (Lit.int .u64 x).wf = true)
    (_t4 : ∀ i, i < len0 → ∃ x : Int, V0 i 4 = .int .u64 x ∧ (Lit.int .u64 x).wf = true) (t5 : ∀ i, i < len0 → ∃ x : ByteArray, V0 i 5 = .string x ∧ x.size ≤ maxLen)
    (y0 : len0 ≤ 9223372036854775807) (at0 : Int) (w1 : (Lit.int .u64 at0).wf = true) (n0 : Int) (w2 : (Lit.int .i64 n0).wf = true) (k0 : Int) (w3 : (Lit.int .i64 k0).wf = true) :
    Calls Try.prog 7 #[.agg #[.slice a0 len0 cap0, .int .u64 at0, .int .i64 n0, .int .i64 k0]] w fun e w' => e = .returned (.bool true) ∧ Below w.heap.size w w' := by
  obtain ⟨A, rfl, hA⟩ := u64_nat' w1
  have K0 := fun W (H : w.heap.size ≤ W.heap.size) => Lib.hid (s_new w.heap.size W H 3 (by omega) (by omega))
  rw [show (3 : Int).toNat = 3 from rfl] at K0
  have C0 := Lib.hid K0; clear K0
  have S0 := Lib.hid s0; have T0 := Lib.hid t0; have T3 := Lib.hid t3; have T5 := Lib.hid t5
  clear s0 t0 _t1 _t2 t3 _t4 t5 w1 w2 w3
  go_enter Try.func7, Try.ntmps7
  go_wp2_with fail
  refine (pshown _).mono ?_
  rintro e w1 ⟨rfl, b1⟩
  have B1 := Lib.hid (((Below.refl w.heap.size w).alloc (Nat.le_refl _) _).trans (b1.mono (by simp))); clear b1
  go_wp2_with fail
  refine (C0.out w1 B1.out.size).out.mono ?_
  rintro e w2 ⟨rfl, m2, b2⟩
  have M2 := Lib.hid (show PutAt w w1.heap.size 3 w2 from ⟨_, ⟨0, by omega, m2⟩, B1.out.trans b2⟩); clear m2 b2
  generalize w1.heap.size = p at *
  go_wp2_with fail
  go_loopw [10] (fun i wr => ∃ k : Nat, k ≤ len0 ∧ i = .int .i64 k ∧ Hid (PutAt w p 3 wr)) (fun i _ => len0 - (intOf i).toNat)
  case atStart => exact ⟨0, Nat.zero_le _, rfl, M2⟩
  case round =>
    obtain ⟨k, hk, rfl, HR⟩ := hrel
    obtain ⟨V, hM, hBw⟩ := HR.out
    by_cases hlt : k < len0
    · obtain ⟨ab, off, rfl, hab, hcell⟩ : ∃ ab off, a0 = some ⟨ab, off, none⟩ ∧ ab < w.heap.size ∧ ∀ i, i < len0 → ∀ j, j < 6 → w.cell? ⟨ab, off + (i * 6 + j), none⟩ = some (V0 i j) := by
        rcases S0.out with h | h
        · omega
        · exact h
      obtain ⟨kd, hkd, _⟩ := T0.out k hlt
      obtain ⟨tk, htk, htw⟩ := T3.out k hlt
      obtain ⟨t, rfl, ht⟩ := u64_nat' htw
      obtain ⟨sv, hsv, hss⟩ := T5.out k hlt
      have c0 : wr.cell? ⟨ab, off + k * 6, none⟩ = some (.int .i64 kd) := by
        rw [hBw.cell hab, ← hkd]; exact hcell k hlt 0 (by omega)
      have c3 : wr.cell? ⟨ab, off + k * 6 + 3, none⟩ = some (.int .u64 t) := by
        rw [hBw.cell hab, ← htk]; exact hcell k hlt 3 (by omega)
      have c5 : wr.cell? ⟨ab, off + k * 6 + 5, none⟩ = some (.string sv) := by
        rw [hBw.cell hab, ← hsv]; exact hcell k hlt 5 (by omega)
      have k0 : (0 : Int) ≤ (k : Int) := by omega
      have k1 : (k : Int) < (len0 : Int) := by omega
      have HM := Lib.hid hM; have HB := Lib.hid hBw
      clear hcell hkd htk hsv htw hM hBw
      by_cases h4 : kd = 4
      · subst h4
        have KQ := Lib.hid (x_put HM.out.drew (by omega) t ht sv hss)
        clear ht hss
        go_wp2_with fail
        go_region_held3 (fun w' => w'.cell? ⟨ab, off + k * 6 + 3, none⟩ = some (.int .u64 (t : Int)) ∧ w'.cell? ⟨ab, off + k * 6 + 5, none⟩ = some (.string sv)) (first | assumption | exact ⟨c3, c5⟩ | (simp [*]; done))
          (first
            | (go_at_call 25; refine KQ.out.mono ?_; rintro e v1 ⟨rfl, m5, b5⟩; have cT : v1.cell? ⟨ab, off + k * 6 + 3, none⟩ = some (.int .u64 (t : Int)) ∧ v1.cell? ⟨ab, off + k * 6 + 5, none⟩ = some (.string sv) := ⟨(b5.cell hab).trans c3, (b5.cell hab).trans c5⟩; have M5 := Lib.hid m5; have B5 := Lib.hid (HB.out.drew.trans b5); clear m5 b5))
        go_wp2_with fail
        go_roundw
        case rel => exact ⟨k + 1, by omega, by go_num, ⟨_, M5.out, B5.out⟩⟩
        case measure => simp [intOf]; omega
      · have g4 : (kd == 4) = false := by simpa using h4
        clear c3 c5
        go_wp2_with fail
        go_roundw
        case rel => exact ⟨k + 1, by omega, by go_num, ⟨_, HM.out, HB.out⟩⟩
        case measure => simp [intOf]; omega
    · have hlt' : decide ((k : Int) < (len0 : Int)) = false := decide_eq_false (by omega)
      have hlt3 : ¬ k < len0 := hlt
      have HM := Lib.hid hM; have HB := Lib.hid hBw
      clear hM hBw HR hlt
      by_cases h : 0 ≤ n0 ∧ n0 ≤ 1000 ∧ 0 ≤ k0 ∧ k0 ≤ 1000 ∧ A ≤ 2000
      · obtain ⟨n, rfl⟩ := Int.eq_ofNat_of_zero_le h.1
        obtain ⟨m, rfl⟩ := Int.eq_ofNat_of_zero_le h.2.2.1
        have x1 : wrap64 ((n : Int) + (m : Int)) = (n : Int) + (m : Int) := by unfold wrap64; omega
        have x2 : IntKind.u64.wrap (n : Int) = (n : Int) := by rw [u64_wrap]; omega
        have x3 : IntKind.u64.wrap ((A : Int) + (n : Int)) = (A : Int) + (n : Int) := by rw [u64_wrap]; omega
        have q1 : decide ((n : Int) < (0 : Int)) = false := decide_eq_false (by omega)
        have q2 : decide ((1000 : Int) < (n : Int)) = false := decide_eq_false (by omega)
        have q3 : decide ((m : Int) < (0 : Int)) = false := decide_eq_false (by omega)
        have q4 : decide ((1000 : Int) < (m : Int)) = false := decide_eq_false (by omega)
        have q5 : decide ((2000 : Int) < (A : Int)) = false := decide_eq_false (by omega)
        have r2 : ¬ 1000 < n := by omega
        have r4 : ¬ 1000 < m := by omega
        have r5 : ¬ 2000 < A := by omega
        have r6 : decide (1000 < n) = false := decide_eq_false r2
        have r7 : decide (1000 < m) = false := decide_eq_false r4
        have r8 : decide (2000 < A) = false := decide_eq_false r5
        have KG1 := x_get HM.out (by omega) A hA ((n + m : Nat) : Int) (by omega)
        have KG2 := fun W (H : MT w.heap.size W p 3 V) => Lib.hid (x_get H (by omega) A hA (n : Int) (by omega))
        have KG3 := fun W (H : MT w.heap.size W p 3 V) => Lib.hid (x_getI H (by omega) (A + n) (by omega) (m : Int) (by omega) ((A : Int) + (n : Int)) (by omega))
        rw [show ((n + m : Nat) : Int) = (n : Int) + (m : Int) from by omega] at KG1
        by_cases hf : A + (n + m) ≤ 768
        · have e1 : cdG 3 A ((n : Int) + (m : Int)) = 0 := by unfold cdG; rw [if_neg (by omega), if_pos (by omega)]
          have e2 : cdG 3 A (n : Int) = 0 := by unfold cdG; rw [if_neg (by omega), if_pos (by omega)]
          have e3 : cdG 3 (A + n) (m : Int) = 0 := by unfold cdG; rw [if_neg (by omega), if_pos (by omega)]
          have f1 : gtS 3 V A ((n : Int) + (m : Int)) = memStr V A n ++ memStr V (A + n) m := by unfold gtS; rw [if_pos e1, show ((n : Int) + (m : Int)).toNat = n + m from by omega, memStr_add]
          have f2 : gtS 3 V A (n : Int) = memStr V A n := by unfold gtS; rw [if_pos e2]; rfl
          have f3 : gtS 3 V (A + n) (m : Int) = memStr V (A + n) m := by unfold gtS; rw [if_pos e3]; rfl
          have hcat := fun W => run_string_add_sum (P := Try.prog) W (memStr V A n) (memStr V (A + n) m) (by rw [memStr_size, memStr_size]; omega)
          rw [e1, f1] at KG1
          rw [e2, f2] at KG2
          rw [e3, f3] at KG3
          generalize memStr V A n ++ memStr V (A + n) m = sa at *
          generalize memStr V A n = sb at *
          generalize memStr V (A + n) m = sc at *
          have G1 := Lib.hid KG1; have G2 := Lib.hid KG2; have G3 := Lib.hid KG3
          clear KG1 KG2 KG3 e1 e2 e3 f1 f2 f3 hf h
          go_wp2_with fail
          refine G1.out.mono ?_
          rintro e w3 ⟨rfl, m3, b3⟩
          have M3 := Lib.hid m3; have B3 := Lib.hid (HB.out.trans b3); clear m3 b3
          go_wp2_with fail
          refine (G2.out w3 M3.out).out.mono ?_
          rintro e w4 ⟨rfl, m3, b3⟩
          have M4 := Lib.hid m3; have B4 := Lib.hid (B3.out.trans b3); clear m3 b3
          go_wp2_with fail
          refine (G3.out w4 M4.out).out.mono ?_
          rintro e w5 ⟨rfl, m3, b3⟩
          have B5 := Lib.hid (B4.out.trans b3); clear m3 b3
          go_wp2_with fail
          go_ret
          exact ⟨ret_bool (by simp), B5.out⟩
        · have e1 : cdG 3 A ((n : Int) + (m : Int)) = 3 := by unfold cdG; rw [if_neg (by omega), if_neg (by omega)]
          have e3 : cdG 3 (A + n) (m : Int) = 3 := by unfold cdG; rw [if_neg (by omega), if_neg (by omega)]
          have e2 : cdG 3 A (n : Int) = 0 ∨ cdG 3 A (n : Int) = 3 := by unfold cdG; rw [if_neg (by omega)]; split <;> simp
          rw [e1] at KG1
          rw [e3] at KG3
          generalize gtS 3 V A ((n : Int) + (m : Int)) = sa at *
          generalize gtS 3 V A (n : Int) = sb at *
          generalize gtS 3 V (A + n) (m : Int) = sc at *
          rcases e2 with e2 | e2
          all_goals
            rw [e2] at KG2
            have G1 := Lib.hid KG1; have G2 := Lib.hid KG2; have G3 := Lib.hid KG3
            clear KG1 KG2 KG3 e1 e2 e3 hf h
            go_wp2_with fail
            refine G1.out.mono ?_
            rintro e w3 ⟨rfl, m3, b3⟩
            have M3 := Lib.hid m3; have B3 := Lib.hid (HB.out.trans b3); clear m3 b3
            go_wp2_with fail
            refine (G2.out w3 M3.out).out.mono ?_
            rintro e w4 ⟨rfl, m3, b3⟩
            have M4 := Lib.hid m3; have B4 := Lib.hid (B3.out.trans b3); clear m3 b3
            go_wp2_with fail
            refine (G3.out w4 M4.out).out.mono ?_
            rintro e w5 ⟨rfl, m3, b3⟩
            have B5 := Lib.hid (B4.out.trans b3); clear m3 b3
            go_wp2_with fail
            go_ret
            exact ⟨ret_bool (by simp), B5.out⟩
      · have hn : n0 < 0 ∨ (0 ≤ n0 ∧ 1000 < n0) ∨ (0 ≤ n0 ∧ n0 ≤ 1000 ∧ k0 < 0) ∨ (0 ≤ n0 ∧ n0 ≤ 1000 ∧ 0 ≤ k0 ∧ 1000 < k0) ∨ (0 ≤ n0 ∧ n0 ≤ 1000 ∧ 0 ≤ k0 ∧ k0 ≤ 1000 ∧ 2000 < A) := by omega
        clear h
        rcases hn with h | ⟨h, h'⟩ | ⟨h, h', h''⟩ | ⟨h, h', h'', h3⟩ | ⟨h, h', h'', h3, h4⟩
        · have q1 : decide (n0 < (0 : Int)) = true := decide_eq_true (by omega)
          go_wp2_with fail
          go_ret
          exact ⟨rfl, HB.out⟩
        · have q1 : decide (n0 < (0 : Int)) = false := decide_eq_false (by omega); have q2 : decide ((1000 : Int) < n0) = true := decide_eq_true (by omega)
          go_wp2_with fail
          go_ret
          exact ⟨rfl, HB.out⟩
        · have q1 : decide (n0 < (0 : Int)) = false := decide_eq_false (by omega); have q2 : decide ((1000 : Int) < n0) = false := decide_eq_false (by omega); have q3 : decide (k0 < (0 : Int)) = true := decide_eq_true (by omega)
          go_wp2_with fail
          go_ret
          exact ⟨rfl, HB.out⟩
        · have q1 : decide (n0 < (0 : Int)) = false := decide_eq_false (by omega); have q2 : decide ((1000 : Int) < n0) = false := decide_eq_false (by omega); have q3 : decide (k0 < (0 : Int)) = false := decide_eq_false (by omega); have q4 : decide ((1000 : Int) < k0) = true := decide_eq_true (by omega)
          go_wp2_with fail
          go_ret
          exact ⟨rfl, HB.out⟩
        · have q1 : decide (n0 < (0 : Int)) = false := decide_eq_false (by omega); have q2 : decide ((1000 : Int) < n0) = false := decide_eq_false (by omega); have q3 : decide (k0 < (0 : Int)) = false := decide_eq_false (by omega); have q4 : decide ((1000 : Int) < k0) = false := decide_eq_false (by omega); have q5 : decide ((2000 : Int) < (A : Int)) = true := decide_eq_true (by omega); have q6 : 2000 < A := h4
          go_wp2_with fail
          go_ret
          exact ⟨rfl, HB.out⟩
end Go.Proofs.Yteamkchcpmoicaa
