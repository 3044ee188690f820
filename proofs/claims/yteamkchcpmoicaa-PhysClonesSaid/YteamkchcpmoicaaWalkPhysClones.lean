/-
  The walk of the statement PhysClones: true, for every input.
-/
import Derived.Test.YteamkchcpmoicaaMem9
import Derived.Test.YteamkchcpmoicaaWdBack
import Derived.Test.YteamkchcpmoicaaOpenS
namespace Go.Proofs.Yteamkchcpmoicaa
open Go.RowKit

theorem ref_takes (w : World) (F : Int) :
    Calls Try.prog 29 #[.int .i64 F] w fun e w' => e = .returned (.bool (decide (1 ≤ F ∧ F ≤ 256))) ∧ w = w' := by
  by_cases h1 : 1 ≤ F
  · have d1 : decide ((1 : Int) ≤ F) = true := decide_eq_true h1
    go_enter Try.func29, Try.ntmps29
    go_wp2_with fail
    go_ret
    exact ⟨ret_bool (by simp [h1]), rfl⟩
  · have d1 : decide ((1 : Int) ≤ F) = false := decide_eq_false h1
    go_enter Try.func29, Try.ntmps29
    go_wp2_with fail
    go_ret
    exact ⟨ret_bool (by simp), rfl⟩

theorem gts_put (F : Nat) (U : Nat → Nat) (A : Nat) (s : ByteArray) (h : A + s.size ≤ F * 256) : gtS F (ptV F U A s) A (s.size : Int) = s := by
  have e : cdG F A (s.size : Int) = 0 := by unfold cdG; rw [if_neg (by omega), if_pos (by simpa using h)]
  have e2 : cdP F A s = 0 := by unfold cdP; rw [if_pos h]
  unfold gtS ptV
  rw [if_pos e, if_pos e2]
  exact memStr_putV U A s

set_option maxRecDepth 100000 in
set_option maxHeartbeats 1600000 in
theorem physClones_walk (w : World) (F0 : Int) (_v0 : (Lit.int .i64 F0).wf = true) (a0 : Option Addr) (len0 cap0 : Nat) (V0 : Nat → Nat → Value) (s0 : SRow w a0 len0 6 V0)
    (t0 : ∀ i, i < len0 → ∃ x : Int, V0 i 0 = .int .i64 x ∧ (Lit.int .i64 x).wf = true) (_t1 : ∀ i, i < len0 → ∃ x : Int, V0 i 1 = .int .i64 x ∧ (Lit.int .i64 x).wf = true)
    (_t2 : ∀ i, i < len0 → ∃ x : Int, V0 i 2 = .int .i64 x ∧ (Lit.int .i64 x).wf = true) (t3 : ∀ i, i < len0 → ∃ x : Int, V0 i 3 = .int .u64 x ∧ (Lit.int .u64 x).wf = true)
    (_t4 : ∀ i, i < len0 → ∃ x : Int, V0 i 4 = .int .u64 x ∧ (Lit.int .u64 x).wf = true) (t5 : ∀ i, i < len0 → ∃ x : ByteArray, V0 i 5 = .string x ∧ x.size ≤ maxLen)
    (y0 : len0 * Try.prog.bytesOf 47 ≤ 140737488351232)
    (kd0 : Int) (_u0 : (Lit.int .i64 kd0).wf = true) (n : Int) (_u1 : (Lit.int .i64 n).wf = true) (nn : Int) (_u2 : (Lit.int .i64 nn).wf = true) (aA : Int) (u3 : (Lit.int .u64 aA).wf = true) (aV : Int) (_u4 : (Lit.int .u64 aV).wf = true) (aS : ByteArray) (u5 : aS.size ≤ maxLen) :
    Calls Try.prog 12 #[.int .i64 F0, .slice a0 len0 cap0, .agg #[.int .i64 kd0, .int .i64 n, .int .i64 nn, .int .u64 aA, .int .u64 aV, .string aS]] w fun e w' => e = .returned (.bool true) ∧ Below w.heap.size w w' := by
  have hlen : len0 < 9223372036854775807 := by
    have e : Try.prog.bytesOf 47 = 56 := by kernel_rfl
    rw [e] at y0; omega
  obtain ⟨A, rfl, hA⟩ := u64_nat' u3
  have e0 : Below w.heap.size w (w.alloc (.cells #[.int .i64 kd0, .int .i64 n, .int .i64 nn, .int .u64 A, .int .u64 aV, .string aS] 47)) := (Below.refl _ _).alloc (Nat.le_refl _) _
  have ek := Blk.new w #[.int .i64 kd0, .int .i64 n, .int .i64 nn, .int .u64 A, .int .u64 aV, .string aS] 47
  by_cases hF : F0 < 1 ∨ 256 < F0
  · have hN := fun W => Lib.hid (phys_new_no W F0 hF)
    have hT := fun W => Lib.hid (ref_takes W F0)
    rw [show decide (1 ≤ F0 ∧ F0 ≤ 256) = false from decide_eq_false (by omega)] at hT
    have HN := Lib.hid hN; have HT := Lib.hid hT; have E0 := Lib.hid e0
    clear hN hT hF e0 ek s0 t0 _t1 _t2 t3 _t4 t5 y0 _u0 _u1 _u2 u3 _u4 u5 _v0 hA
    go_enter Try.func12, Try.ntmps12
    go_wp2_with fail
    refine (pshown _).mono ?_
    rintro e w1 ⟨rfl, b1⟩
    have B1 := Lib.hid (E0.out.trans (b1.mono (by simp))); clear b1
    go_wp2_with fail
    refine (HN.out w1).out.mono ?_
    rintro e w2 ⟨rfl, rfl⟩
    go_wp2_with fail
    refine (HT.out w1).out.mono ?_
    rintro e w2 ⟨rfl, rfl⟩
    go_wp2_with fail
    go_ret
    exact ⟨rfl, B1.out⟩
  obtain ⟨F, rfl⟩ := Int.eq_ofNat_of_zero_le (show 0 ≤ F0 by omega)
  have hF2 : 1 ≤ F ∧ F ≤ 256 := by omega
  have q1 : wrap64 ((F : Int) * 256) = (F : Int) * 256 := by unfold wrap64; omega
  have HF := Lib.hid hF2; clear hF hF2
  go_enter Try.func12, Try.ntmps12
  go_wp2_with fail
  refine (pshown _).mono ?_
  rintro e w1 ⟨rfl, b1⟩
  have s0' := s0.chg (Nat.le_refl _) e0
  generalize hbx : w.heap.size = bx at *
  generalize w.alloc _ = wa at *
  have K0 := fun W (H : wa.heap.size ≤ W.heap.size) => Lib.hid (s_new wa.heap.size W H F (by have := HF.out; omega) (by have := HF.out; omega))
  rw [show (F : Int).toNat = F from rfl] at K0
  have C0 := Lib.hid K0; clear K0
  have S0 := Lib.hid s0'; have T0 := Lib.hid t0; have T3 := Lib.hid t3; have T5 := Lib.hid t5; have E0 := Lib.hid e0; have EK := Lib.hid ek; have HBX := Lib.hid hbx
  have HAS := Lib.hid (And.intro hA u5)
  clear s0 s0' t0 _t1 _t2 t3 _t4 t5 y0 _u0 _u1 _u2 u3 _u4 u5 _v0 e0 ek hbx hA
  have B1 := Lib.hid b1; clear b1
  go_wp2_with fail
  refine (C0.out w1 B1.out.size).out.mono ?_
  rintro e w2 ⟨rfl, m2, b2⟩
  have M2 := Lib.hid (show PutAt wa w1.heap.size F w2 from ⟨_, ⟨0, by omega, m2⟩, B1.out.trans b2⟩); clear m2 b2
  generalize w1.heap.size = p at *
  go_wp2_with fail
  go_loopw [11] (fun i wr => ∃ k : Nat, k ≤ len0 ∧ i = .int .i64 k ∧ Hid (PutAt wa p F wr)) (fun i _ => len0 - (intOf i).toNat)
  case atStart => exact ⟨0, Nat.zero_le _, rfl, M2⟩
  case round =>
    obtain ⟨k, hk, rfl, HR⟩ := hrel
    obtain ⟨V, hM, hBw⟩ := HR.out
    by_cases hlt : k < len0
    · obtain ⟨ab, off, rfl, hab, hcell⟩ : ∃ ab off, a0 = some ⟨ab, off, none⟩ ∧ ab < wa.heap.size ∧ ∀ i, i < len0 → ∀ j, j < 6 → wa.cell? ⟨ab, off + (i * 6 + j), none⟩ = some (V0 i j) := by
        rcases S0.out with h | h
        · omega
        · exact h
      obtain ⟨kd, hkd, _⟩ := T0.out k hlt
      obtain ⟨tk, htk, htw⟩ := T3.out k hlt
      obtain ⟨t, rfl, ht⟩ := u64_nat' htw
      obtain ⟨sv, hsv, hss⟩ := T5.out k hlt
      have c0 : wr.cell? ⟨ab, off + k * 6, none⟩ = some (.int .i64 kd) := by
        rw [hBw.cell hab, ← hkd]; exact hcell k hlt 0 (by omega)
      have c3 : wr.cell? ⟨ab, off + k * 6 + 3, none⟩ = some (.int .u64 t) := by
        rw [hBw.cell hab, ← htk]; exact hcell k hlt 3 (by omega)
      have c5 : wr.cell? ⟨ab, off + k * 6 + 5, none⟩ = some (.string sv) := by
        rw [hBw.cell hab, ← hsv]; exact hcell k hlt 5 (by omega)
      have k0 : (0 : Int) ≤ (k : Int) := by omega
      have k1 : (k : Int) < (len0 : Int) := by omega
      have HM := Lib.hid hM; have HB := Lib.hid hBw
      clear hcell hkd htk hsv htw hM hBw
      by_cases h4 : kd = 4
      · subst h4
        have KQ := Lib.hid (x_put HM.out.drew HF.out.2 t ht sv hss)
        clear ht hss
        go_wp2_with fail
        go_region_held3 (fun w' => w'.cell? ⟨ab, off + k * 6 + 3, none⟩ = some (.int .u64 (t : Int)) ∧ w'.cell? ⟨ab, off + k * 6 + 5, none⟩ = some (.string sv)) (first | assumption | exact ⟨c3, c5⟩ | (simp [*]; done))
          (first
            | (go_at_call 25; refine KQ.out.mono ?_; rintro e v1 ⟨rfl, m5, b5⟩; have cT : v1.cell? ⟨ab, off + k * 6 + 3, none⟩ = some (.int .u64 (t : Int)) ∧ v1.cell? ⟨ab, off + k * 6 + 5, none⟩ = some (.string sv) := ⟨(b5.cell hab).trans c3, (b5.cell hab).trans c5⟩; have M5 := Lib.hid m5; have B5 := Lib.hid (HB.out.drew.trans b5); clear m5 b5))
        go_wp2_with fail
        go_roundw
        case rel => exact ⟨k + 1, by omega, by go_num, ⟨_, M5.out, B5.out⟩⟩
        case measure => simp [intOf]; omega
      · have g4 : (kd == 4) = false := by simpa using h4
        clear c3 c5
        go_wp2_with fail
        go_roundw
        case rel => exact ⟨k + 1, by omega, by go_num, ⟨_, HM.out, HB.out⟩⟩
        case measure => simp [intOf]; omega
    · have hlt' : decide ((k : Int) < (len0 : Int)) = false := decide_eq_false (by omega)
      have hlt3 : ¬ k < len0 := hlt
      have HM := Lib.hid hM; have HB := Lib.hid hBw
      clear hM hBw HR hlt
      have hbx : bx < wa.heap.size := EK.out.lt
      have gb : ∀ W, Below wa.heap.size wa W → W.cell? ⟨bx, 3, none⟩ = some (.int .u64 A) ∧ W.cell? ⟨bx, 5, none⟩ = some (.string aS) := fun W h =>
        ⟨(h.cell hbx).trans (EK.out.cellv 3 _ rfl), (h.cell hbx).trans (EK.out.cellv 5 _ rfl)⟩
      have GB := Lib.hid gb; clear gb hbx
      have hend : ∀ W, Below wa.heap.size wa W → Below bx w W := fun W h => E0.out.trans (h.mono (by have := E0.out.size; have := HBX.out; omega))
      have HEND := Lib.hid hend; clear hend
      have hF2 := HF.out; have hAS := HAS.out
      have hg0 : ∀ W, gtS F W 0 ((F : Int) * 256) = memStr W 0 (F * 256) ∧ cdG F 0 ((F : Int) * 256) = 0 := by
        intro W
        have e : cdG F 0 ((F : Int) * 256) = 0 := by unfold cdG; rw [if_neg (by omega), if_pos (by omega)]
        exact ⟨by unfold gtS; rw [if_pos e, show ((F : Int) * 256).toNat = F * 256 from by omega], e⟩
      have K1 := mem_clone HM.out hF2.2
      have K2 := fun W q (H : Two wa.heap.size W p q F V V 0) => Lib.hid (two_get_l H hF2.2 0 (by omega) ((F : Int) * 256) (by omega) 0 rfl)
      have K3 := fun W q (H : Two wa.heap.size W p q F V V 0) => Lib.hid (two_get_r H hF2.2 0 (by omega) ((F : Int) * 256) (by omega) 0 rfl)
      have K4 := fun W q (H : Two wa.heap.size W p q F V V 0) => Lib.hid (two_put_r H hF2.2 A hAS.1 aS hAS.2)
      have K5 := fun W q (H : Two wa.heap.size W p q F V (ptV F V A aS) 0) => Lib.hid (two_get_l H hF2.2 0 (by omega) ((F : Int) * 256) (by omega) 0 rfl)
      have K6 := fun W q (H : Two wa.heap.size W p q F V (ptV F V A aS) 0) => Lib.hid (two_clear_l H hF2.2 0)
      have K7 := fun W q (H : Two wa.heap.size W p q F (clV F V 0) (ptV F V A aS) 0) => Lib.hid (two_get_r H hF2.2 A hAS.1 (aS.size : Int) (by have := hAS.2; unfold maxLen at this; omega) (A : Int) rfl)
      have K8 := fun W q (H : Two wa.heap.size W p q F (clV F V 0) (ptV F V A aS) 0) => Lib.hid (two_put_r H hF2.2 A hAS.1 aS hAS.2)
      rw [(hg0 V).1, (hg0 V).2] at K2 K3 K5
      have hgp := gts_put F V A aS
      have hcp : cdP F A aS = 0 ∧ A + aS.size ≤ F * 256 ∨ cdP F A aS = 3 := by unfold cdP; split; exact .inl ⟨rfl, by assumption⟩; exact .inr rfl
      clear hg0 hF2 hAS
      generalize ptV F (ptV F V A aS) A aS = U2 at *
      generalize hU : ptV F V A aS = U at *
      clear hU
      generalize clV F V 0 = V1 at *
      generalize memStr V 0 (F * 256) = sx at *
      generalize cdF F 0 = cf at *
      generalize cdG F A (aS.size : Int) = cg at *
      rcases hcp with ⟨hc, hfit⟩ | hc
      · rw [hgp hfit] at K7
        rw [hc] at K4 K8
        clear hgp hfit hc
        have C1 := Lib.hid K1; have C2 := Lib.hid K2; have C3 := Lib.hid K3; have C4 := Lib.hid K4; have C5 := Lib.hid K5; have C6 := Lib.hid K6; have C7 := Lib.hid K7; have C8 := Lib.hid K8
        clear K1 K2 K3 K4 K5 K6 K7 K8
        go_wp2_with fail
        refine C1.out.mono ?_
        rintro e w3 ⟨q, rfl, m3, b3⟩
        have M3 := Lib.hid m3; have B3 := Lib.hid (HB.out.trans b3); clear m3 b3
        go_wp2_with fail
        refine (C2.out w3 q M3.out).out.mono ?_
        rintro e w4 ⟨rfl, m3, b3⟩
        have M4 := Lib.hid m3; have B4 := Lib.hid (B3.out.trans b3); clear m3 b3
        go_wp2_with fail
        refine (C3.out w4 q M4.out).out.mono ?_
        rintro e w5 ⟨rfl, m3, b3⟩
        have M5 := Lib.hid m3; have B5 := Lib.hid (B4.out.trans b3); clear m3 b3
        obtain ⟨x3, x5⟩ := GB.out _ B5.out
        go_wp2_with fail
        refine (C4.out w5 q M5.out).out.mono ?_
        rintro e w6 ⟨rfl, m3, b3⟩
        have M6 := Lib.hid m3; have B6 := Lib.hid (B5.out.trans b3); clear m3 b3
        go_wp2_with fail
        refine (C5.out w6 q M6.out).out.mono ?_
        rintro e w7 ⟨rfl, m3, b3⟩
        have M7 := Lib.hid m3; have B7 := Lib.hid (B6.out.trans b3); clear m3 b3
        go_wp2_with fail
        refine (C6.out w7 q M7.out).out.mono ?_
        rintro e w8 ⟨rfl, m3, b3⟩
        have M8 := Lib.hid m3; have B8 := Lib.hid (B7.out.trans b3); clear m3 b3
        obtain ⟨x3, x5⟩ := GB.out _ B8.out
        go_wp2_with fail
        refine (C7.out w8 q M8.out).out.mono ?_
        rintro e w9 ⟨rfl, m3, b3⟩
        have M9 := Lib.hid m3; have B9 := Lib.hid (B8.out.trans b3); clear m3 b3
        obtain ⟨x3, x5⟩ := GB.out _ B9.out
        go_wp2_with fail
        refine (C8.out w9 q M9.out).out.mono ?_
        rintro e w10 ⟨rfl, m3, b3⟩
        have M10 := Lib.hid m3; have B10 := Lib.hid (B9.out.trans b3); clear m3 b3
        go_wp2_with fail
        refine (two_touched_r M10.out).mono ?_
        rintro e w11 ⟨rfl, rfl⟩
        obtain ⟨x3, x5⟩ := GB.out _ B10.out
        go_wp2_with fail
        go_ret
        exact ⟨ret_bool (by simp), HBX.out ▸ HEND.out _ B10.out⟩
      · clear hgp
        generalize gtS F U A (aS.size : Int) = sw at *
        rw [hc] at K4 K8
        clear hc
        have C1 := Lib.hid K1; have C2 := Lib.hid K2; have C3 := Lib.hid K3; have C4 := Lib.hid K4; have C5 := Lib.hid K5; have C6 := Lib.hid K6; have C7 := Lib.hid K7; have C8 := Lib.hid K8
        clear K1 K2 K3 K4 K5 K6 K7 K8
        go_wp2_with fail
        refine C1.out.mono ?_
        rintro e w3 ⟨q, rfl, m3, b3⟩
        have M3 := Lib.hid m3; have B3 := Lib.hid (HB.out.trans b3); clear m3 b3
        go_wp2_with fail
        refine (C2.out w3 q M3.out).out.mono ?_
        rintro e w4 ⟨rfl, m3, b3⟩
        have M4 := Lib.hid m3; have B4 := Lib.hid (B3.out.trans b3); clear m3 b3
        go_wp2_with fail
        refine (C3.out w4 q M4.out).out.mono ?_
        rintro e w5 ⟨rfl, m3, b3⟩
        have M5 := Lib.hid m3; have B5 := Lib.hid (B4.out.trans b3); clear m3 b3
        obtain ⟨x3, x5⟩ := GB.out _ B5.out
        go_wp2_with fail
        refine (C4.out w5 q M5.out).out.mono ?_
        rintro e w6 ⟨rfl, m3, b3⟩
        have M6 := Lib.hid m3; have B6 := Lib.hid (B5.out.trans b3); clear m3 b3
        go_wp2_with fail
        refine (C5.out w6 q M6.out).out.mono ?_
        rintro e w7 ⟨rfl, m3, b3⟩
        have M7 := Lib.hid m3; have B7 := Lib.hid (B6.out.trans b3); clear m3 b3
        go_wp2_with fail
        refine (C6.out w7 q M7.out).out.mono ?_
        rintro e w8 ⟨rfl, m3, b3⟩
        have M8 := Lib.hid m3; have B8 := Lib.hid (B7.out.trans b3); clear m3 b3
        obtain ⟨x3, x5⟩ := GB.out _ B8.out
        go_wp2_with fail
        refine (C7.out w8 q M8.out).out.mono ?_
        rintro e w9 ⟨rfl, m3, b3⟩
        have M9 := Lib.hid m3; have B9 := Lib.hid (B8.out.trans b3); clear m3 b3
        obtain ⟨x3, x5⟩ := GB.out _ B9.out
        go_wp2_with fail
        refine (C8.out w9 q M9.out).out.mono ?_
        rintro e w10 ⟨rfl, m3, b3⟩
        have M10 := Lib.hid m3; have B10 := Lib.hid (B9.out.trans b3); clear m3 b3
        go_wp2_with fail
        refine (two_touched_r M10.out).mono ?_
        rintro e w11 ⟨rfl, rfl⟩
        obtain ⟨x3, x5⟩ := GB.out _ B10.out
        go_wp2_with fail
        go_ret
        exact ⟨ret_bool (by simp), HBX.out ▸ HEND.out _ B10.out⟩
end Go.Proofs.Yteamkchcpmoicaa
