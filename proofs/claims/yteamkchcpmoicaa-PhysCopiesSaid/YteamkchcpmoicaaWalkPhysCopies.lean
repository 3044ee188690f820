/-
  The walk of the statement PhysCopies: true, for every input.
-/
import Derived.Test.YteamkchcpmoicaaPhActs
import Derived.Test.YteamkchcpmoicaaOpen
namespace Go.Proofs.Yteamkchcpmoicaa
open Go.RowKit

set_option maxRecDepth 100000 in
set_option maxHeartbeats 1600000 in
theorem physCopies_walk (w : World) (a0 : Option Addr) (len0 cap0 : Nat) (V0 : Nat → Nat → Value) (s0 : SRow w a0 len0 6 V0)
    (t0 : ∀ i, i < len0 → ∃ x : Int, V0 i 0 = .int .i64 x ∧ (Lit.int .i64 x).wf = true) (_t1 : ∀ i, i < len0 → ∃ x : Int, V0 i 1 = .int .i64 x ∧ (Lit.int .i64 x).wf = true)
    (_t2 : ∀ i, i < len0 → ∃ x : Int, V0 i 2 = .int .i64 x ∧ (Lit.int .i64 x).wf = true) (t3 : ∀ i, i < len0 → ∃ x : Int, V0 i 3 = .int .u64 x ∧ (Lit.int .u64 x).wf = true)
    (_t4 : ∀ i, i < len0 → ∃ x : Int, V0 i 4 = .int .u64 x ∧ (Lit.int .u64 x).wf = true) (t5 : ∀ i, i < len0 → ∃ x : ByteArray, V0 i 5 = .string x ∧ x.size ≤ maxLen)
    (y0 : len0 * Try.prog.bytesOf 47 ≤ 140737488351232) (to : Int) (w1 : (Lit.int .i64 to).wf = true) (from_ : Int) (w2 : (Lit.int .i64 from_).wf = true) :
    Calls Try.prog 9 #[.slice a0 len0 cap0, .int .i64 to, .int .i64 from_] w fun e w' => e = .returned (.bool true) ∧ Below w.heap.size w w' := by
  have hlen : len0 < 9223372036854775807 := by
    have e : Try.prog.bytesOf 47 = 56 := by kernel_rfl
    rw [e] at y0; omega
  have K0 := fun W (H : w.heap.size ≤ W.heap.size) => Lib.hid (s_new w.heap.size W H 3 (by omega) (by omega))
  rw [show (3 : Int).toNat = 3 from rfl] at K0
  have C0 := Lib.hid K0; clear K0
  have S0 := Lib.hid s0; have T0 := Lib.hid t0; have T3 := Lib.hid t3; have T5 := Lib.hid t5
  clear s0 t0 _t1 _t2 t3 _t4 t5 y0 w1 w2
  go_enter Try.func9, Try.ntmps9
  go_wp2_with fail
  refine (pshown w).mono ?_
  rintro e w1 ⟨rfl, b1⟩
  have B1 := Lib.hid b1; clear b1
  go_wp2_with fail
  refine (C0.out w1 B1.out.size).out.mono ?_
  rintro e w2 ⟨rfl, m2, b2⟩
  have M2 := Lib.hid (show PutAt w w1.heap.size 3 w2 from ⟨_, ⟨0, by omega, m2⟩, B1.out.trans b2⟩); clear m2 b2
  generalize w1.heap.size = p at *
  go_wp2_with fail
  go_loopw [10] (fun i wr => ∃ k : Nat, k ≤ len0 ∧ i = .int .i64 k ∧ Hid (PutAt w p 3 wr)) (fun i _ => len0 - (intOf i).toNat)
  case atStart => exact ⟨0, Nat.zero_le _, rfl, M2⟩
  case round =>
    obtain ⟨k, hk, rfl, HR⟩ := hrel
    obtain ⟨V, hM, hBw⟩ := HR.out
    by_cases hlt : k < len0
    · obtain ⟨ab, off, rfl, hab, hcell⟩ : ∃ ab off, a0 = some ⟨ab, off, none⟩ ∧ ab < w.heap.size ∧ ∀ i, i < len0 → ∀ j, j < 6 → w.cell? ⟨ab, off + (i * 6 + j), none⟩ = some (V0 i j) := by
        rcases S0.out with h | h
        · omega
        · exact h
      obtain ⟨kd, hkd, _⟩ := T0.out k hlt
      obtain ⟨tk, htk, htw⟩ := T3.out k hlt
      obtain ⟨t, rfl, ht⟩ := u64_nat' htw
      obtain ⟨sv, hsv, hss⟩ := T5.out k hlt
      have c0 : wr.cell? ⟨ab, off + k * 6, none⟩ = some (.int .i64 kd) := by
        rw [hBw.cell hab, ← hkd]; exact hcell k hlt 0 (by omega)
      have c3 : wr.cell? ⟨ab, off + k * 6 + 3, none⟩ = some (.int .u64 t) := by
        rw [hBw.cell hab, ← htk]; exact hcell k hlt 3 (by omega)
      have c5 : wr.cell? ⟨ab, off + k * 6 + 5, none⟩ = some (.string sv) := by
        rw [hBw.cell hab, ← hsv]; exact hcell k hlt 5 (by omega)
      have k0 : (0 : Int) ≤ (k : Int) := by omega
      have k1 : (k : Int) < (len0 : Int) := by omega
      have HM := Lib.hid hM; have HB := Lib.hid hBw
      clear hcell hkd htk hsv htw hM hBw
      by_cases h4 : kd = 4
      · subst h4
        have KQ := Lib.hid (x_put HM.out.drew (by omega) t ht sv hss)
        clear ht hss
        go_wp2_with fail
        go_region_held3 (fun w' => w'.cell? ⟨ab, off + k * 6 + 3, none⟩ = some (.int .u64 (t : Int)) ∧ w'.cell? ⟨ab, off + k * 6 + 5, none⟩ = some (.string sv)) (first | assumption | exact ⟨c3, c5⟩ | (simp [*]; done))
          (first
            | (go_at_call 25; refine KQ.out.mono ?_; rintro e v1 ⟨rfl, m5, b5⟩; have cT : v1.cell? ⟨ab, off + k * 6 + 3, none⟩ = some (.int .u64 (t : Int)) ∧ v1.cell? ⟨ab, off + k * 6 + 5, none⟩ = some (.string sv) := ⟨(b5.cell hab).trans c3, (b5.cell hab).trans c5⟩; have M5 := Lib.hid m5; have B5 := Lib.hid (HB.out.drew.trans b5); clear m5 b5))
        go_wp2_with fail
        go_roundw
        case rel => exact ⟨k + 1, by omega, by go_num, ⟨_, M5.out, B5.out⟩⟩
        case measure => simp [intOf]; omega
      · have g4 : (kd == 4) = false := by simpa using h4
        clear c3 c5
        go_wp2_with fail
        go_roundw
        case rel => exact ⟨k + 1, by omega, by go_num, ⟨_, HM.out, HB.out⟩⟩
        case measure => simp [intOf]; omega
    · have hlt' : decide ((k : Int) < (len0 : Int)) = false := decide_eq_false (by omega)
      have hlt3 : ¬ k < len0 := hlt
      have HM := Lib.hid hM; have HB := Lib.hid hBw
      clear hM hBw HR hlt
      by_cases h : 0 ≤ to ∧ to < 3 ∧ 0 ≤ from_ ∧ from_ < 3
      · obtain ⟨f, rfl⟩ := Int.eq_ofNat_of_zero_le h.2.2.1
        obtain ⟨g, rfl⟩ := Int.eq_ofNat_of_zero_le h.1
        have hc : cdC 3 (g : Int) (f : Int) = 0 := by unfold cdC; rw [if_pos (by omega)]
        have hv : cpV 3 V (g : Int) (f : Int) = putV V (g * 256) 256 (fun i => V (f * 256 + i)) := by unfold cpV; rw [if_pos hc]; simp
        have hcl : cdF 3 (g : Int) = 0 := by unfold cdF; rw [if_pos (by omega)]
        have hg : ∀ (W : Nat → Nat) (j : Nat), j < 3 → gtS 3 W (256 * j) 256 = memStr W (256 * j) 256 ∧ cdG 3 (256 * j) 256 = 0 := by
          intro W j hj
          have e : cdG 3 (256 * j) 256 = 0 := by unfold cdG; rw [if_neg (by omega), if_pos (by show 256 * j + 256 ≤ 768; omega)]
          exact ⟨by unfold gtS; rw [if_pos e]; rfl, e⟩
        have KG0 := x_getI HM.out (by omega) (256 * f) (by omega) 256 (by omega)
        rw [(hg V f (by omega)).1, (hg V f (by omega)).2] at KG0
        have KC := fun W (H : MT w.heap.size W p 3 V) => Lib.hid (x_copy H (by omega) (g : Int) (f : Int))
        rw [hc, hv] at KC
        generalize hV2 : putV V (g * 256) 256 (fun i => V (f * 256 + i)) = V2 at *
        have e1 : memStr V2 (256 * g) 256 = memStr V (256 * f) 256 := memStr_congr fun i hi => by
          rw [← hV2]; unfold putV; rw [if_pos (by omega)]; show V (f * 256 + (256 * g + i - g * 256)) = _; congr 1; omega
        have e2 : memStr V2 (256 * f) 256 = memStr V (256 * f) 256 := memStr_congr fun i hi => by
          rw [← hV2]; unfold putV
          by_cases hfg : f = g
          · subst hfg; rw [if_pos (by omega)]; show V (f * 256 + (256 * f + i - f * 256)) = _; congr 1; omega
          · rw [if_neg (by omega)]
        have KG1 := fun W (H : MT w.heap.size W p 3 V2) => Lib.hid (x_getI H (by omega) (256 * g) (by omega) 256 (by omega))
        rw [(hg V2 g (by omega)).1, (hg V2 g (by omega)).2, e1] at KG1
        have KG2 := fun W (H : MT w.heap.size W p 3 V2) => Lib.hid (x_getI H (by omega) (256 * f) (by omega) 256 (by omega))
        rw [(hg V2 f (by omega)).1, (hg V2 f (by omega)).2, e2] at KG2
        have KL := fun W (H : MT w.heap.size W p 3 V2) => Lib.hid (x_clear H (by omega) (g : Int))
        rw [hcl] at KL
        have hv3 : clV 3 V2 (g : Int) = putV V2 (g * 256) 256 (fun _ => 0) := by unfold clV; rw [if_pos hcl]; simp
        rw [hv3] at KL
        generalize hV3 : putV V2 (g * 256) 256 (fun _ => 0) = V3 at *
        have e3 : g ≠ f → memStr V3 (256 * f) 256 = memStr V (256 * f) 256 := fun hfg => by
          rw [← e2]
          exact memStr_congr fun i hi => by rw [← hV3]; unfold putV; rw [if_neg (by omega)]
        have KG3 := fun W (H : MT w.heap.size W p 3 V3) => Lib.hid (x_getI H (by omega) (256 * f) (by omega) 256 (by omega))
        rw [(hg V3 f (by omega)).1, (hg V3 f (by omega)).2] at KG3
        generalize memStr V (256 * f) 256 = sw at *
        generalize memStr V3 (256 * f) 256 = sc at *
        have G0 := Lib.hid KG0; have G1 := Lib.hid KG1; have G2 := Lib.hid KG2; have G3 := Lib.hid KG3; have HC := Lib.hid KC; have HL := Lib.hid KL; have E3 := Lib.hid e3
        have q1 : wrap64 (256 * (f : Int)) = 256 * (f : Int) := by unfold wrap64; omega
        have q2 : wrap64 (256 * (g : Int)) = 256 * (g : Int) := by unfold wrap64; omega
        have q3 : IntKind.u64.wrap (256 * (f : Int)) = 256 * (f : Int) := by rw [u64_wrap]; omega
        have q4 : IntKind.u64.wrap (256 * (g : Int)) = 256 * (g : Int) := by rw [u64_wrap]; omega
        have d1 : decide ((0 : Int) ≤ (g : Int)) = true := decide_eq_true (by omega)
        have d2 : decide ((g : Int) < 3) = true := decide_eq_true (by omega)
        have d3 : decide ((0 : Int) ≤ (f : Int)) = true := decide_eq_true (by omega)
        have d4 : decide ((f : Int) < 3) = true := decide_eq_true (by omega)
        have d5 : f < 3 := by omega
        have d6 : g < 3 := by omega
        clear KG0 KG1 KG2 KG3 KC KL e1 e2 e3 hV2 hV3 hv3 hg hcl hv hc h
        go_wp2_with fail
        refine (G0.out _ (by omega)).mono ?_
        rintro e w3 ⟨rfl, m3, b3⟩
        have M3 := Lib.hid m3; have B3 := Lib.hid (HB.out.trans b3); clear m3 b3
        go_wp2_with fail
        refine (HC.out w3 M3.out).out.mono ?_
        rintro e w4 ⟨rfl, m3, b3⟩
        have M4 := Lib.hid m3; have B4 := Lib.hid (B3.out.trans b3); clear m3 b3
        go_wp2_with fail
        refine ((G1.out w4 M4.out).out _ (by omega)).mono ?_
        rintro e w5 ⟨rfl, m3, b3⟩
        have M5 := Lib.hid m3; have B5 := Lib.hid (B4.out.trans b3); clear m3 b3
        go_wp2_with fail
        refine ((G2.out w5 M5.out).out _ (by omega)).mono ?_
        rintro e w6 ⟨rfl, m3, b3⟩
        have M6 := Lib.hid m3; have B6 := Lib.hid (B5.out.trans b3); clear m3 b3
        go_wp2_with fail
        refine (HL.out w6 M6.out).out.mono ?_
        rintro e w7 ⟨rfl, m3, b3⟩
        have M7 := Lib.hid m3; have B7 := Lib.hid (B6.out.trans b3); clear m3 b3
        go_wp2_with fail
        refine ((G3.out w7 M7.out).out _ (by omega)).mono ?_
        rintro e w8 ⟨rfl, m3, b3⟩
        have M8 := Lib.hid m3; have B8 := Lib.hid (B7.out.trans b3); clear m3 b3
        by_cases hfg : g = f
        · have x1 : ((g : Int) == (f : Int)) = true := by simp [hfg]
          have x2 : decide ((g : Int) = (f : Int)) = true := decide_eq_true (by omega)
          go_wp2_with fail
          go_ret
          exact ⟨ret_bool (by simp [hfg]), B8.out⟩
        · have e3 := E3.out hfg
          have x1 : ((g : Int) == (f : Int)) = false := by simp; omega
          have x2 : decide ((g : Int) = (f : Int)) = false := decide_eq_false (by omega)
          subst e3
          go_wp2_with fail
          go_ret
          exact ⟨ret_bool (by simp [hfg]; try omega), B8.out⟩
      · have hc : cdC 3 to from_ = 3 := by unfold cdC; rw [if_neg (by omega)]
        have KC := x_copy HM.out (by omega) to from_
        rw [hc] at KC
        have HK := Lib.hid KC
        clear KC hc
        have hn : to < 0 ∨ (0 ≤ to ∧ 3 ≤ to) ∨ (0 ≤ to ∧ to < 3 ∧ from_ < 0) ∨ (0 ≤ to ∧ to < 3 ∧ 0 ≤ from_ ∧ 3 ≤ from_) := by omega
        clear h
        rcases hn with h | ⟨h, h'⟩ | ⟨h, h', h''⟩ | ⟨h, h', h'', h3⟩
        · have q1 : decide ((0 : Int) ≤ to) = false := decide_eq_false (by omega)
          go_wp2_with fail
          refine HK.out.mono ?_
          rintro e w3 ⟨rfl, m3, b3⟩
          have B3 := Lib.hid (HB.out.trans b3); clear m3 b3
          go_wp2_with fail
          go_ret
          exact ⟨rfl, B3.out⟩
        · have q1 : decide ((0 : Int) ≤ to) = true := decide_eq_true (by omega); have q2 : decide (to < (3 : Int)) = false := decide_eq_false (by omega)
          go_wp2_with fail
          refine HK.out.mono ?_
          rintro e w3 ⟨rfl, m3, b3⟩
          have B3 := Lib.hid (HB.out.trans b3); clear m3 b3
          go_wp2_with fail
          go_ret
          exact ⟨rfl, B3.out⟩
        · have q1 : decide ((0 : Int) ≤ to) = true := decide_eq_true (by omega); have q2 : decide (to < (3 : Int)) = true := decide_eq_true (by omega); have q3 : decide ((0 : Int) ≤ from_) = false := decide_eq_false (by omega)
          go_wp2_with fail
          refine HK.out.mono ?_
          rintro e w3 ⟨rfl, m3, b3⟩
          have B3 := Lib.hid (HB.out.trans b3); clear m3 b3
          go_wp2_with fail
          go_ret
          exact ⟨rfl, B3.out⟩
        · have q1 : decide ((0 : Int) ≤ to) = true := decide_eq_true (by omega); have q2 : decide (to < (3 : Int)) = true := decide_eq_true (by omega); have q3 : decide ((0 : Int) ≤ from_) = true := decide_eq_true (by omega); have q4 : decide (from_ < (3 : Int)) = false := decide_eq_false (by omega)
          go_wp2_with fail
          refine HK.out.mono ?_
          rintro e w3 ⟨rfl, m3, b3⟩
          have B3 := Lib.hid (HB.out.trans b3); clear m3 b3
          go_wp2_with fail
          go_ret
          exact ⟨rfl, B3.out⟩
end Go.Proofs.Yteamkchcpmoicaa
