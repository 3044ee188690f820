/-
  The walk of the statement PhysKeeps: true, for every input.
-/
import Derived.Test.YteamkchcpmoicaaWdBack
import Derived.Test.YteamkchcpmoicaaOpen
namespace Go.Proofs.Yteamkchcpmoicaa
open Go.RowKit

theorem SRow.chg {B : Nat} {w w' : World} {a : Option Addr} {len nf : Nat} {V : Nat → Nat → Value} (h : SRow w a len nf V) (hB : w.heap.size ≤ B) (c : Below B w w') : SRow w' a len nf V := by
  rcases h with h | ⟨b, off, h1, h2, h3⟩
  · exact .inl h
  · exact .inr ⟨b, off, h1, Nat.lt_of_lt_of_le h2 c.size, fun i hi j hj => (c.cell (Nat.lt_of_lt_of_le h2 hB)).trans (h3 i hi j hj)⟩

set_option maxRecDepth 100000 in
set_option maxHeartbeats 1600000 in
theorem physKeeps_walk (w : World) (a0 : Option Addr) (len0 cap0 : Nat) (V0 : Nat → Nat → Value) (s0 : SRow w a0 len0 6 V0)
    (t0 : ∀ i, i < len0 → ∃ x : Int, V0 i 0 = .int .i64 x ∧ (Lit.int .i64 x).wf = true) (_t1 : ∀ i, i < len0 → ∃ x : Int, V0 i 1 = .int .i64 x ∧ (Lit.int .i64 x).wf = true)
    (_t2 : ∀ i, i < len0 → ∃ x : Int, V0 i 2 = .int .i64 x ∧ (Lit.int .i64 x).wf = true) (t3 : ∀ i, i < len0 → ∃ x : Int, V0 i 3 = .int .u64 x ∧ (Lit.int .u64 x).wf = true)
    (_t4 : ∀ i, i < len0 → ∃ x : Int, V0 i 4 = .int .u64 x ∧ (Lit.int .u64 x).wf = true) (t5 : ∀ i, i < len0 → ∃ x : ByteArray, V0 i 5 = .string x ∧ x.size ≤ maxLen)
    (y0 : len0 * Try.prog.bytesOf 47 ≤ 140737488351232)
    (kd0 : Int) (_u0 : (Lit.int .i64 kd0).wf = true) (n : Int) (_u1 : (Lit.int .i64 n).wf = true) (nn : Int) (_u2 : (Lit.int .i64 nn).wf = true) (aA : Int) (u3 : (Lit.int .u64 aA).wf = true) (aV : Int) (u4 : (Lit.int .u64 aV).wf = true) (aS : ByteArray) (_u5 : aS.size ≤ maxLen)
    (at0 : Int) (u6 : (Lit.int .u64 at0).wf = true) :
    Calls Try.prog 6 #[.slice a0 len0 cap0, .agg #[.int .i64 kd0, .int .i64 n, .int .i64 nn, .int .u64 aA, .int .u64 aV, .string aS], .int .u64 at0] w fun e w' => e = .returned (.bool true) ∧ Below w.heap.size w w' := by
  have hlen : len0 < 9223372036854775807 := by
    have e : Try.prog.bytesOf 47 = 56 := by kernel_rfl
    rw [e] at y0; omega
  obtain ⟨A, rfl, hA⟩ := u64_nat' u3
  obtain ⟨X, rfl, hX⟩ := u64_nat' u4
  obtain ⟨T, rfl, hT⟩ := u64_nat' u6
  have e0 : Below w.heap.size w (w.alloc (.cells #[.int .i64 kd0, .int .i64 n, .int .i64 nn, .int .u64 A, .int .u64 X, .string aS] 47)) := (Below.refl _ _).alloc (Nat.le_refl _) _
  have ek := Blk.new w #[.int .i64 kd0, .int .i64 n, .int .i64 nn, .int .u64 A, .int .u64 X, .string aS] 47
  go_enter Try.func6, Try.ntmps6
  go_wp2_with fail
  refine (pshown _).mono ?_
  rintro e w1 ⟨rfl, b1⟩
  have s0' := s0.chg (Nat.le_refl _) e0
  generalize hbx : w.heap.size = bx at *
  generalize w.alloc _ = wa at *
  have K0 := fun W (H : wa.heap.size ≤ W.heap.size) => Lib.hid (s_new wa.heap.size W H 3 (by omega) (by omega))
  rw [show (3 : Int).toNat = 3 from rfl] at K0
  have C0 := Lib.hid K0; clear K0
  have S0 := Lib.hid s0'; have T0 := Lib.hid t0; have T3 := Lib.hid t3; have T5 := Lib.hid t5; have E0 := Lib.hid e0; have EK := Lib.hid ek; have HBX := Lib.hid hbx
  clear s0 s0' t0 _t1 _t2 t3 _t4 t5 y0 _u0 _u1 _u2 u3 u4 _u5 u6 e0 ek hbx
  have B1 := Lib.hid b1; clear b1
  go_wp2_with fail
  refine (C0.out w1 B1.out.size).out.mono ?_
  rintro e w2 ⟨rfl, m2, b2⟩
  have M2 := Lib.hid (show PutAt wa w1.heap.size 3 w2 from ⟨_, ⟨0, by omega, m2⟩, B1.out.trans b2⟩); clear m2 b2
  generalize w1.heap.size = p at *
  go_wp2_with fail
  go_loopw [10] (fun i wr => ∃ k : Nat, k ≤ len0 ∧ i = .int .i64 k ∧ Hid (PutAt wa p 3 wr)) (fun i _ => len0 - (intOf i).toNat)
  case atStart => exact ⟨0, Nat.zero_le _, rfl, M2⟩
  case round =>
    obtain ⟨k, hk, rfl, HR⟩ := hrel
    obtain ⟨V, hM, hBw⟩ := HR.out
    by_cases hlt : k < len0
    · obtain ⟨ab, off, rfl, hab, hcell⟩ : ∃ ab off, a0 = some ⟨ab, off, none⟩ ∧ ab < wa.heap.size ∧ ∀ i, i < len0 → ∀ j, j < 6 → wa.cell? ⟨ab, off + (i * 6 + j), none⟩ = some (V0 i j) := by
        rcases S0.out with h | h
        · omega
        · exact h
      obtain ⟨kd, hkd, _⟩ := T0.out k hlt
      obtain ⟨tk, htk, htw⟩ := T3.out k hlt
      obtain ⟨t, rfl, ht⟩ := u64_nat' htw
      obtain ⟨sv, hsv, hss⟩ := T5.out k hlt
      have c0 : wr.cell? ⟨ab, off + k * 6, none⟩ = some (.int .i64 kd) := by
        rw [hBw.cell hab, ← hkd]; exact hcell k hlt 0 (by omega)
      have c3 : wr.cell? ⟨ab, off + k * 6 + 3, none⟩ = some (.int .u64 t) := by
        rw [hBw.cell hab, ← htk]; exact hcell k hlt 3 (by omega)
      have c5 : wr.cell? ⟨ab, off + k * 6 + 5, none⟩ = some (.string sv) := by
        rw [hBw.cell hab, ← hsv]; exact hcell k hlt 5 (by omega)
      have k0 : (0 : Int) ≤ (k : Int) := by omega
      have k1 : (k : Int) < (len0 : Int) := by omega
      have HM := Lib.hid hM; have HB := Lib.hid hBw
      clear hcell hkd htk hsv htw hM hBw
      by_cases h4 : kd = 4
      · subst h4
        have KQ := Lib.hid (x_put HM.out.drew (by omega) t ht sv hss)
        clear ht hss
        go_wp2_with fail
        go_region_held3 (fun w' => w'.cell? ⟨ab, off + k * 6 + 3, none⟩ = some (.int .u64 (t : Int)) ∧ w'.cell? ⟨ab, off + k * 6 + 5, none⟩ = some (.string sv)) (first | assumption | exact ⟨c3, c5⟩ | (simp [*]; done))
          (first
            | (go_at_call 25; refine KQ.out.mono ?_; rintro e v1 ⟨rfl, m5, b5⟩; have cT : v1.cell? ⟨ab, off + k * 6 + 3, none⟩ = some (.int .u64 (t : Int)) ∧ v1.cell? ⟨ab, off + k * 6 + 5, none⟩ = some (.string sv) := ⟨(b5.cell hab).trans c3, (b5.cell hab).trans c5⟩; have M5 := Lib.hid m5; have B5 := Lib.hid (HB.out.drew.trans b5); clear m5 b5))
        go_wp2_with fail
        go_roundw
        case rel => exact ⟨k + 1, by omega, by go_num, ⟨_, M5.out, B5.out⟩⟩
        case measure => simp [intOf]; omega
      · have g4 : (kd == 4) = false := by simpa using h4
        clear c3 c5
        go_wp2_with fail
        go_roundw
        case rel => exact ⟨k + 1, by omega, by go_num, ⟨_, HM.out, HB.out⟩⟩
        case measure => simp [intOf]; omega
    · have hlt' : decide ((k : Int) < (len0 : Int)) = false := decide_eq_false (by omega)
      have hlt3 : ¬ k < len0 := hlt
      have HM := Lib.hid hM; have HB := Lib.hid hBw
      clear hM hBw HR hlt
      have hbx : bx < wa.heap.size := EK.out.lt
      have gb : ∀ W, Below wa.heap.size wa W → W.cell? ⟨bx, 1, none⟩ = some (.int .i64 n) ∧ W.cell? ⟨bx, 3, none⟩ = some (.int .u64 A) ∧ W.cell? ⟨bx, 4, none⟩ = some (.int .u64 X) := fun W h =>
        ⟨(h.cell hbx).trans (EK.out.cellv 1 _ rfl), (h.cell hbx).trans (EK.out.cellv 3 _ rfl), (h.cell hbx).trans (EK.out.cellv 4 _ rfl)⟩
      have GB := Lib.hid gb; clear gb hbx
      have hend : ∀ W, Below wa.heap.size wa W → Below bx w W := fun W h => E0.out.trans (h.mono (by have := E0.out.size; have := HBX.out; omega))
      have HEND := Lib.hid hend; clear hend
      have K1 := x_load HM.out (by omega) T hT 1
      have K2 := fun W (H : MT wa.heap.size W p 3 V) => Lib.hid (x_store H (by omega) A hA n X hX)
      have K3 := fun W (H : MT wa.heap.size W p 3 (stV 3 V A n X)) => Lib.hid (x_load H (by omega) T hT 1)
      have K4 := fun W (H : MT wa.heap.size W p 3 (stV 3 V A n X)) => Lib.hid (x_load H (by omega) A hA n)
      generalize hcT : cdL 3 T 1 = cT at *
      clear hcT
      rcases cdL_cases 3 A n with ⟨hc, hn, hfit⟩ | ⟨hc, hn⟩ | hc
      · have hbs := fun h => ld_beside V 3 A X T n h
        rw [hc] at K2 K4
        have q : ∀ y : Int, y = A → IntKind.u64.wrap (y + n) = y + n := fun y hy => by rw [u64_wrap]; omega
        rcases hn with rfl | rfl | rfl | rfl
        · have hq : ((ldV 3 (stV 3 V A 1 X) A 1 : Nat) : Int) = (X : Int) % 256 := by
            rw [show (1 : Int) = ((1 : Nat) : Int) from rfl, ld_st V 3 A X 1 hX hc (by omega)]; simp [wLow]
          rw [hq] at K4
          have q' := q _ rfl
          have HFIT := Lib.hid (show A + 1 ≤ 768 from hfit)
          clear hq q hX hT hfit hA
          generalize stV 3 V A 1 X = V2 at *
          by_cases hb : T < A ∨ A + 1 ≤ T
          · rw [hbs (by simpa using hb)] at K3
            generalize ldV 3 V T 1 = x at *
            have C1 := Lib.hid K1; have C2 := Lib.hid K2; have C3 := Lib.hid K3; have C4 := Lib.hid K4
            clear K1 K2 K3 K4 hc hbs
            by_cases hb1 : T < A
            · have d1 : decide ((T : Int) < (A : Int)) = true := decide_eq_true (by omega)
              clear hb
              go_wp2_with fail
              refine C1.out.mono ?_
              rintro e w3 ⟨rfl, m3, b3⟩
              have M3 := Lib.hid m3; have B3 := Lib.hid (HB.out.trans b3); clear m3 b3
              obtain ⟨x1, x3, x4⟩ := GB.out _ B3.out
              go_wp2_with fail
              refine (C2.out w3 M3.out).out.mono ?_
              rintro e w4 ⟨rfl, m3, b3⟩
              have M4 := Lib.hid m3; have B4 := Lib.hid (B3.out.trans b3); clear m3 b3
              obtain ⟨x1, x3, x4⟩ := GB.out _ B4.out
              go_wp2_with fail
              refine (C3.out w4 M4.out).out.mono ?_
              rintro e w5 ⟨rfl, m3, b3⟩
              have M5 := Lib.hid m3; have B5 := Lib.hid (B4.out.trans b3); clear m3 b3
              obtain ⟨x1, x3, x4⟩ := GB.out _ B5.out
              go_wp2_with fail
              refine (C4.out w5 M5.out).out.mono ?_
              rintro e w6 ⟨rfl, m3, b3⟩
              have B6 := Lib.hid (B5.out.trans b3); clear m3 b3
              obtain ⟨x1, x3, x4⟩ := GB.out _ B6.out
              go_wp2_with fail
              go_ret
              exact ⟨ret_bool (by simp), HBX.out ▸ HEND.out _ B6.out⟩
            · have d1 : decide ((T : Int) < (A : Int)) = false := decide_eq_false (by omega)
              have d2 : decide ((A : Int) + 1 ≤ (T : Int)) = true := decide_eq_true (by omega)
              have d3 : A + 1 ≤ T := by omega
              clear hb
              go_wp2_with fail
              refine C1.out.mono ?_
              rintro e w3 ⟨rfl, m3, b3⟩
              have M3 := Lib.hid m3; have B3 := Lib.hid (HB.out.trans b3); clear m3 b3
              obtain ⟨x1, x3, x4⟩ := GB.out _ B3.out
              go_wp2_with fail
              refine (C2.out w3 M3.out).out.mono ?_
              rintro e w4 ⟨rfl, m3, b3⟩
              have M4 := Lib.hid m3; have B4 := Lib.hid (B3.out.trans b3); clear m3 b3
              obtain ⟨x1, x3, x4⟩ := GB.out _ B4.out
              go_wp2_with fail
              refine (C3.out w4 M4.out).out.mono ?_
              rintro e w5 ⟨rfl, m3, b3⟩
              have M5 := Lib.hid m3; have B5 := Lib.hid (B4.out.trans b3); clear m3 b3
              obtain ⟨x1, x3, x4⟩ := GB.out _ B5.out
              go_wp2_with fail
              refine (C4.out w5 M5.out).out.mono ?_
              rintro e w6 ⟨rfl, m3, b3⟩
              have B6 := Lib.hid (B5.out.trans b3); clear m3 b3
              obtain ⟨x1, x3, x4⟩ := GB.out _ B6.out
              go_wp2_with fail
              go_ret
              exact ⟨ret_bool (by simp), HBX.out ▸ HEND.out _ B6.out⟩
          · have d1 : decide ((T : Int) < (A : Int)) = false := decide_eq_false (by omega)
            have d2 : decide ((A : Int) + 1 ≤ (T : Int)) = false := decide_eq_false (by omega)
            have d3 : ¬ T < A := by omega
            have d4 : ¬ A + 1 ≤ T := by omega
            generalize ldV 3 V T 1 = x at *
            generalize ldV 3 V2 T 1 = y at *
            have C1 := Lib.hid K1; have C2 := Lib.hid K2; have C3 := Lib.hid K3; have C4 := Lib.hid K4
            clear K1 K2 K3 K4 hc hbs hb
            go_wp2_with fail
            refine C1.out.mono ?_
            rintro e w3 ⟨rfl, m3, b3⟩
            have M3 := Lib.hid m3; have B3 := Lib.hid (HB.out.trans b3); clear m3 b3
            obtain ⟨x1, x3, x4⟩ := GB.out _ B3.out
            go_wp2_with fail
            refine (C2.out w3 M3.out).out.mono ?_
            rintro e w4 ⟨rfl, m3, b3⟩
            have M4 := Lib.hid m3; have B4 := Lib.hid (B3.out.trans b3); clear m3 b3
            obtain ⟨x1, x3, x4⟩ := GB.out _ B4.out
            go_wp2_with fail
            refine (C3.out w4 M4.out).out.mono ?_
            rintro e w5 ⟨rfl, m3, b3⟩
            have M5 := Lib.hid m3; have B5 := Lib.hid (B4.out.trans b3); clear m3 b3
            obtain ⟨x1, x3, x4⟩ := GB.out _ B5.out
            go_wp2_with fail
            refine (C4.out w5 M5.out).out.mono ?_
            rintro e w6 ⟨rfl, m3, b3⟩
            have B6 := Lib.hid (B5.out.trans b3); clear m3 b3
            obtain ⟨x1, x3, x4⟩ := GB.out _ B6.out
            go_wp2_with fail
            go_ret
            exact ⟨ret_bool (by simp), HBX.out ▸ HEND.out _ B6.out⟩
        · have hq : ((ldV 3 (stV 3 V A 2 X) A 2 : Nat) : Int) = (X : Int) % 65536 := by
            rw [show (2 : Int) = ((2 : Nat) : Int) from rfl, ld_st V 3 A X 2 hX hc (by omega)]; simp [wLow]
          rw [hq] at K4
          have q' := q _ rfl
          have HFIT := Lib.hid (show A + 2 ≤ 768 from hfit)
          clear hq q hX hT hfit hA
          generalize stV 3 V A 2 X = V2 at *
          by_cases hb : T < A ∨ A + 2 ≤ T
          · rw [hbs (by simpa using hb)] at K3
            generalize ldV 3 V T 1 = x at *
            have C1 := Lib.hid K1; have C2 := Lib.hid K2; have C3 := Lib.hid K3; have C4 := Lib.hid K4
            clear K1 K2 K3 K4 hc hbs
            by_cases hb1 : T < A
            · have d1 : decide ((T : Int) < (A : Int)) = true := decide_eq_true (by omega)
              clear hb
              go_wp2_with fail
              refine C1.out.mono ?_
              rintro e w3 ⟨rfl, m3, b3⟩
              have M3 := Lib.hid m3; have B3 := Lib.hid (HB.out.trans b3); clear m3 b3
              obtain ⟨x1, x3, x4⟩ := GB.out _ B3.out
              go_wp2_with fail
              refine (C2.out w3 M3.out).out.mono ?_
              rintro e w4 ⟨rfl, m3, b3⟩
              have M4 := Lib.hid m3; have B4 := Lib.hid (B3.out.trans b3); clear m3 b3
              obtain ⟨x1, x3, x4⟩ := GB.out _ B4.out
              go_wp2_with fail
              refine (C3.out w4 M4.out).out.mono ?_
              rintro e w5 ⟨rfl, m3, b3⟩
              have M5 := Lib.hid m3; have B5 := Lib.hid (B4.out.trans b3); clear m3 b3
              obtain ⟨x1, x3, x4⟩ := GB.out _ B5.out
              go_wp2_with fail
              refine (C4.out w5 M5.out).out.mono ?_
              rintro e w6 ⟨rfl, m3, b3⟩
              have B6 := Lib.hid (B5.out.trans b3); clear m3 b3
              obtain ⟨x1, x3, x4⟩ := GB.out _ B6.out
              go_wp2_with fail
              go_ret
              exact ⟨ret_bool (by simp), HBX.out ▸ HEND.out _ B6.out⟩
            · have d1 : decide ((T : Int) < (A : Int)) = false := decide_eq_false (by omega)
              have d2 : decide ((A : Int) + 2 ≤ (T : Int)) = true := decide_eq_true (by omega)
              have d3 : A + 2 ≤ T := by omega
              clear hb
              go_wp2_with fail
              refine C1.out.mono ?_
              rintro e w3 ⟨rfl, m3, b3⟩
              have M3 := Lib.hid m3; have B3 := Lib.hid (HB.out.trans b3); clear m3 b3
              obtain ⟨x1, x3, x4⟩ := GB.out _ B3.out
              go_wp2_with fail
              refine (C2.out w3 M3.out).out.mono ?_
              rintro e w4 ⟨rfl, m3, b3⟩
              have M4 := Lib.hid m3; have B4 := Lib.hid (B3.out.trans b3); clear m3 b3
              obtain ⟨x1, x3, x4⟩ := GB.out _ B4.out
              go_wp2_with fail
              refine (C3.out w4 M4.out).out.mono ?_
              rintro e w5 ⟨rfl, m3, b3⟩
              have M5 := Lib.hid m3; have B5 := Lib.hid (B4.out.trans b3); clear m3 b3
              obtain ⟨x1, x3, x4⟩ := GB.out _ B5.out
              go_wp2_with fail
              refine (C4.out w5 M5.out).out.mono ?_
              rintro e w6 ⟨rfl, m3, b3⟩
              have B6 := Lib.hid (B5.out.trans b3); clear m3 b3
              obtain ⟨x1, x3, x4⟩ := GB.out _ B6.out
              go_wp2_with fail
              go_ret
              exact ⟨ret_bool (by simp), HBX.out ▸ HEND.out _ B6.out⟩
          · have d1 : decide ((T : Int) < (A : Int)) = false := decide_eq_false (by omega)
            have d2 : decide ((A : Int) + 2 ≤ (T : Int)) = false := decide_eq_false (by omega)
            have d3 : ¬ T < A := by omega
            have d4 : ¬ A + 2 ≤ T := by omega
            generalize ldV 3 V T 1 = x at *
            generalize ldV 3 V2 T 1 = y at *
            have C1 := Lib.hid K1; have C2 := Lib.hid K2; have C3 := Lib.hid K3; have C4 := Lib.hid K4
            clear K1 K2 K3 K4 hc hbs hb
            go_wp2_with fail
            refine C1.out.mono ?_
            rintro e w3 ⟨rfl, m3, b3⟩
            have M3 := Lib.hid m3; have B3 := Lib.hid (HB.out.trans b3); clear m3 b3
            obtain ⟨x1, x3, x4⟩ := GB.out _ B3.out
            go_wp2_with fail
            refine (C2.out w3 M3.out).out.mono ?_
            rintro e w4 ⟨rfl, m3, b3⟩
            have M4 := Lib.hid m3; have B4 := Lib.hid (B3.out.trans b3); clear m3 b3
            obtain ⟨x1, x3, x4⟩ := GB.out _ B4.out
            go_wp2_with fail
            refine (C3.out w4 M4.out).out.mono ?_
            rintro e w5 ⟨rfl, m3, b3⟩
            have M5 := Lib.hid m3; have B5 := Lib.hid (B4.out.trans b3); clear m3 b3
            obtain ⟨x1, x3, x4⟩ := GB.out _ B5.out
            go_wp2_with fail
            refine (C4.out w5 M5.out).out.mono ?_
            rintro e w6 ⟨rfl, m3, b3⟩
            have B6 := Lib.hid (B5.out.trans b3); clear m3 b3
            obtain ⟨x1, x3, x4⟩ := GB.out _ B6.out
            go_wp2_with fail
            go_ret
            exact ⟨ret_bool (by simp), HBX.out ▸ HEND.out _ B6.out⟩
        · have hq : ((ldV 3 (stV 3 V A 4 X) A 4 : Nat) : Int) = (X : Int) % 4294967296 := by
            rw [show (4 : Int) = ((4 : Nat) : Int) from rfl, ld_st V 3 A X 4 hX hc (by omega)]; simp [wLow]
          rw [hq] at K4
          have q' := q _ rfl
          have HFIT := Lib.hid (show A + 4 ≤ 768 from hfit)
          clear hq q hX hT hfit hA
          generalize stV 3 V A 4 X = V2 at *
          by_cases hb : T < A ∨ A + 4 ≤ T
          · rw [hbs (by simpa using hb)] at K3
            generalize ldV 3 V T 1 = x at *
            have C1 := Lib.hid K1; have C2 := Lib.hid K2; have C3 := Lib.hid K3; have C4 := Lib.hid K4
            clear K1 K2 K3 K4 hc hbs
            by_cases hb1 : T < A
            · have d1 : decide ((T : Int) < (A : Int)) = true := decide_eq_true (by omega)
              clear hb
              go_wp2_with fail
              refine C1.out.mono ?_
              rintro e w3 ⟨rfl, m3, b3⟩
              have M3 := Lib.hid m3; have B3 := Lib.hid (HB.out.trans b3); clear m3 b3
              obtain ⟨x1, x3, x4⟩ := GB.out _ B3.out
              go_wp2_with fail
              refine (C2.out w3 M3.out).out.mono ?_
              rintro e w4 ⟨rfl, m3, b3⟩
              have M4 := Lib.hid m3; have B4 := Lib.hid (B3.out.trans b3); clear m3 b3
              obtain ⟨x1, x3, x4⟩ := GB.out _ B4.out
              go_wp2_with fail
              refine (C3.out w4 M4.out).out.mono ?_
              rintro e w5 ⟨rfl, m3, b3⟩
              have M5 := Lib.hid m3; have B5 := Lib.hid (B4.out.trans b3); clear m3 b3
              obtain ⟨x1, x3, x4⟩ := GB.out _ B5.out
              go_wp2_with fail
              refine (C4.out w5 M5.out).out.mono ?_
              rintro e w6 ⟨rfl, m3, b3⟩
              have B6 := Lib.hid (B5.out.trans b3); clear m3 b3
              obtain ⟨x1, x3, x4⟩ := GB.out _ B6.out
              go_wp2_with fail
              go_ret
              exact ⟨ret_bool (by simp), HBX.out ▸ HEND.out _ B6.out⟩
            · have d1 : decide ((T : Int) < (A : Int)) = false := decide_eq_false (by omega)
              have d2 : decide ((A : Int) + 4 ≤ (T : Int)) = true := decide_eq_true (by omega)
              have d3 : A + 4 ≤ T := by omega
              clear hb
              go_wp2_with fail
              refine C1.out.mono ?_
              rintro e w3 ⟨rfl, m3, b3⟩
              have M3 := Lib.hid m3; have B3 := Lib.hid (HB.out.trans b3); clear m3 b3
              obtain ⟨x1, x3, x4⟩ := GB.out _ B3.out
              go_wp2_with fail
              refine (C2.out w3 M3.out).out.mono ?_
              rintro e w4 ⟨rfl, m3, b3⟩
              have M4 := Lib.hid m3; have B4 := Lib.hid (B3.out.trans b3); clear m3 b3
              obtain ⟨x1, x3, x4⟩ := GB.out _ B4.out
              go_wp2_with fail
              refine (C3.out w4 M4.out).out.mono ?_
              rintro e w5 ⟨rfl, m3, b3⟩
              have M5 := Lib.hid m3; have B5 := Lib.hid (B4.out.trans b3); clear m3 b3
              obtain ⟨x1, x3, x4⟩ := GB.out _ B5.out
              go_wp2_with fail
              refine (C4.out w5 M5.out).out.mono ?_
              rintro e w6 ⟨rfl, m3, b3⟩
              have B6 := Lib.hid (B5.out.trans b3); clear m3 b3
              obtain ⟨x1, x3, x4⟩ := GB.out _ B6.out
              go_wp2_with fail
              go_ret
              exact ⟨ret_bool (by simp), HBX.out ▸ HEND.out _ B6.out⟩
          · have d1 : decide ((T : Int) < (A : Int)) = false := decide_eq_false (by omega)
            have d2 : decide ((A : Int) + 4 ≤ (T : Int)) = false := decide_eq_false (by omega)
            have d3 : ¬ T < A := by omega
            have d4 : ¬ A + 4 ≤ T := by omega
            generalize ldV 3 V T 1 = x at *
            generalize ldV 3 V2 T 1 = y at *
            have C1 := Lib.hid K1; have C2 := Lib.hid K2; have C3 := Lib.hid K3; have C4 := Lib.hid K4
            clear K1 K2 K3 K4 hc hbs hb
            go_wp2_with fail
            refine C1.out.mono ?_
            rintro e w3 ⟨rfl, m3, b3⟩
            have M3 := Lib.hid m3; have B3 := Lib.hid (HB.out.trans b3); clear m3 b3
            obtain ⟨x1, x3, x4⟩ := GB.out _ B3.out
            go_wp2_with fail
            refine (C2.out w3 M3.out).out.mono ?_
            rintro e w4 ⟨rfl, m3, b3⟩
            have M4 := Lib.hid m3; have B4 := Lib.hid (B3.out.trans b3); clear m3 b3
            obtain ⟨x1, x3, x4⟩ := GB.out _ B4.out
            go_wp2_with fail
            refine (C3.out w4 M4.out).out.mono ?_
            rintro e w5 ⟨rfl, m3, b3⟩
            have M5 := Lib.hid m3; have B5 := Lib.hid (B4.out.trans b3); clear m3 b3
            obtain ⟨x1, x3, x4⟩ := GB.out _ B5.out
            go_wp2_with fail
            refine (C4.out w5 M5.out).out.mono ?_
            rintro e w6 ⟨rfl, m3, b3⟩
            have B6 := Lib.hid (B5.out.trans b3); clear m3 b3
            obtain ⟨x1, x3, x4⟩ := GB.out _ B6.out
            go_wp2_with fail
            go_ret
            exact ⟨ret_bool (by simp), HBX.out ▸ HEND.out _ B6.out⟩
        · have hq : ((ldV 3 (stV 3 V A 8 X) A 8 : Nat) : Int) = (X : Int) := by
            rw [show (8 : Int) = ((8 : Nat) : Int) from rfl, ld_st V 3 A X 8 hX hc (by omega)]; simp [wLow]
          rw [hq] at K4
          have q' := q _ rfl
          have HFIT := Lib.hid (show A + 8 ≤ 768 from hfit)
          clear hq q hX hT hfit hA
          generalize stV 3 V A 8 X = V2 at *
          by_cases hb : T < A ∨ A + 8 ≤ T
          · rw [hbs (by simpa using hb)] at K3
            generalize ldV 3 V T 1 = x at *
            have C1 := Lib.hid K1; have C2 := Lib.hid K2; have C3 := Lib.hid K3; have C4 := Lib.hid K4
            clear K1 K2 K3 K4 hc hbs
            by_cases hb1 : T < A
            · have d1 : decide ((T : Int) < (A : Int)) = true := decide_eq_true (by omega)
              clear hb
              go_wp2_with fail
              refine C1.out.mono ?_
              rintro e w3 ⟨rfl, m3, b3⟩
              have M3 := Lib.hid m3; have B3 := Lib.hid (HB.out.trans b3); clear m3 b3
              obtain ⟨x1, x3, x4⟩ := GB.out _ B3.out
              go_wp2_with fail
              refine (C2.out w3 M3.out).out.mono ?_
              rintro e w4 ⟨rfl, m3, b3⟩
              have M4 := Lib.hid m3; have B4 := Lib.hid (B3.out.trans b3); clear m3 b3
              obtain ⟨x1, x3, x4⟩ := GB.out _ B4.out
              go_wp2_with fail
              refine (C3.out w4 M4.out).out.mono ?_
              rintro e w5 ⟨rfl, m3, b3⟩
              have M5 := Lib.hid m3; have B5 := Lib.hid (B4.out.trans b3); clear m3 b3
              obtain ⟨x1, x3, x4⟩ := GB.out _ B5.out
              go_wp2_with fail
              refine (C4.out w5 M5.out).out.mono ?_
              rintro e w6 ⟨rfl, m3, b3⟩
              have B6 := Lib.hid (B5.out.trans b3); clear m3 b3
              obtain ⟨x1, x3, x4⟩ := GB.out _ B6.out
              go_wp2_with fail
              go_ret
              exact ⟨ret_bool (by simp), HBX.out ▸ HEND.out _ B6.out⟩
            · have d1 : decide ((T : Int) < (A : Int)) = false := decide_eq_false (by omega)
              have d2 : decide ((A : Int) + 8 ≤ (T : Int)) = true := decide_eq_true (by omega)
              have d3 : A + 8 ≤ T := by omega
              clear hb
              go_wp2_with fail
              refine C1.out.mono ?_
              rintro e w3 ⟨rfl, m3, b3⟩
              have M3 := Lib.hid m3; have B3 := Lib.hid (HB.out.trans b3); clear m3 b3
              obtain ⟨x1, x3, x4⟩ := GB.out _ B3.out
              go_wp2_with fail
              refine (C2.out w3 M3.out).out.mono ?_
              rintro e w4 ⟨rfl, m3, b3⟩
              have M4 := Lib.hid m3; have B4 := Lib.hid (B3.out.trans b3); clear m3 b3
              obtain ⟨x1, x3, x4⟩ := GB.out _ B4.out
              go_wp2_with fail
              refine (C3.out w4 M4.out).out.mono ?_
              rintro e w5 ⟨rfl, m3, b3⟩
              have M5 := Lib.hid m3; have B5 := Lib.hid (B4.out.trans b3); clear m3 b3
              obtain ⟨x1, x3, x4⟩ := GB.out _ B5.out
              go_wp2_with fail
              refine (C4.out w5 M5.out).out.mono ?_
              rintro e w6 ⟨rfl, m3, b3⟩
              have B6 := Lib.hid (B5.out.trans b3); clear m3 b3
              obtain ⟨x1, x3, x4⟩ := GB.out _ B6.out
              go_wp2_with fail
              go_ret
              exact ⟨ret_bool (by simp), HBX.out ▸ HEND.out _ B6.out⟩
          · have d1 : decide ((T : Int) < (A : Int)) = false := decide_eq_false (by omega)
            have d2 : decide ((A : Int) + 8 ≤ (T : Int)) = false := decide_eq_false (by omega)
            have d3 : ¬ T < A := by omega
            have d4 : ¬ A + 8 ≤ T := by omega
            generalize ldV 3 V T 1 = x at *
            generalize ldV 3 V2 T 1 = y at *
            have C1 := Lib.hid K1; have C2 := Lib.hid K2; have C3 := Lib.hid K3; have C4 := Lib.hid K4
            clear K1 K2 K3 K4 hc hbs hb
            go_wp2_with fail
            refine C1.out.mono ?_
            rintro e w3 ⟨rfl, m3, b3⟩
            have M3 := Lib.hid m3; have B3 := Lib.hid (HB.out.trans b3); clear m3 b3
            obtain ⟨x1, x3, x4⟩ := GB.out _ B3.out
            go_wp2_with fail
            refine (C2.out w3 M3.out).out.mono ?_
            rintro e w4 ⟨rfl, m3, b3⟩
            have M4 := Lib.hid m3; have B4 := Lib.hid (B3.out.trans b3); clear m3 b3
            obtain ⟨x1, x3, x4⟩ := GB.out _ B4.out
            go_wp2_with fail
            refine (C3.out w4 M4.out).out.mono ?_
            rintro e w5 ⟨rfl, m3, b3⟩
            have M5 := Lib.hid m3; have B5 := Lib.hid (B4.out.trans b3); clear m3 b3
            obtain ⟨x1, x3, x4⟩ := GB.out _ B5.out
            go_wp2_with fail
            refine (C4.out w5 M5.out).out.mono ?_
            rintro e w6 ⟨rfl, m3, b3⟩
            have B6 := Lib.hid (B5.out.trans b3); clear m3 b3
            obtain ⟨x1, x3, x4⟩ := GB.out _ B6.out
            go_wp2_with fail
            go_ret
            exact ⟨ret_bool (by simp), HBX.out ▸ HEND.out _ B6.out⟩
      · have hV : stV 3 V A n X = V := by unfold stV; rw [hc]; simp
        rw [hV] at K2 K3
        rw [hc] at K2
        have hne : n ≠ 1 ∧ n ≠ 2 ∧ n ≠ 4 ∧ n ≠ 8 := by unfold wSized at hn; simpa [and_assoc] using hn
        have q1 : (n == 1) = false := by simpa using hne.1
        have q2 : (n == 2) = false := by simpa using hne.2.1
        have q4 : (n == 4) = false := by simpa using hne.2.2.1
        have q8 : (n == 8) = false := by simpa using hne.2.2.2
        have r1 : decide (n = 1) = false := by simpa using hne.1
        have r2 : decide (n = 2) = false := by simpa using hne.2.1
        have r4 : decide (n = 4) = false := by simpa using hne.2.2.1
        have r8 : decide (n = 8) = false := by simpa using hne.2.2.2
        generalize ldV 3 V T 1 = x at *
        have C1 := Lib.hid K1; have C2 := Lib.hid K2; have C3 := Lib.hid K3
        clear K1 K2 K3 K4 hV hc hn hA hX hT hne
        go_wp2_with fail
        refine C1.out.mono ?_
        rintro e w3 ⟨rfl, m3, b3⟩
        have M3 := Lib.hid m3; have B3 := Lib.hid (HB.out.trans b3); clear m3 b3
        obtain ⟨x1, x3, x4⟩ := GB.out _ B3.out
        go_wp2_with fail
        refine (C2.out w3 M3.out).out.mono ?_
        rintro e w4 ⟨rfl, m3, b3⟩
        have M4 := Lib.hid m3; have B4 := Lib.hid (B3.out.trans b3); clear m3 b3
        obtain ⟨x1, x3, x4⟩ := GB.out _ B4.out
        go_wp2_with fail
        refine (C3.out w4 M4.out).out.mono ?_
        rintro e w5 ⟨rfl, m3, b3⟩
        have M5 := Lib.hid m3; have B5 := Lib.hid (B4.out.trans b3); clear m3 b3
        obtain ⟨x1, x3, x4⟩ := GB.out _ B5.out
        go_wp2_with fail
        go_ret
        exact ⟨ret_bool (by simp), HBX.out ▸ HEND.out _ B5.out⟩
      · have hV : stV 3 V A n X = V := by unfold stV; rw [hc]; simp
        rw [hV] at K2 K3
        rw [hc] at K2
        generalize ldV 3 V T 1 = x at *
        have C1 := Lib.hid K1; have C2 := Lib.hid K2; have C3 := Lib.hid K3
        clear K1 K2 K3 K4 hV hc hA hX hT
        go_wp2_with fail
        refine C1.out.mono ?_
        rintro e w3 ⟨rfl, m3, b3⟩
        have M3 := Lib.hid m3; have B3 := Lib.hid (HB.out.trans b3); clear m3 b3
        obtain ⟨x1, x3, x4⟩ := GB.out _ B3.out
        go_wp2_with fail
        refine (C2.out w3 M3.out).out.mono ?_
        rintro e w4 ⟨rfl, m3, b3⟩
        have M4 := Lib.hid m3; have B4 := Lib.hid (B3.out.trans b3); clear m3 b3
        obtain ⟨x1, x3, x4⟩ := GB.out _ B4.out
        go_wp2_with fail
        refine (C3.out w4 M4.out).out.mono ?_
        rintro e w5 ⟨rfl, m3, b3⟩
        have M5 := Lib.hid m3; have B5 := Lib.hid (B4.out.trans b3); clear m3 b3
        obtain ⟨x1, x3, x4⟩ := GB.out _ B5.out
        go_wp2_with fail
        go_ret
        exact ⟨ret_bool (by simp), HBX.out ▸ HEND.out _ B5.out⟩
end Go.Proofs.Yteamkchcpmoicaa
