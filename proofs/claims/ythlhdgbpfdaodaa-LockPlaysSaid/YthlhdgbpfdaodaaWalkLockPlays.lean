/-
  The walk of the statement LockPlays: true, for every width and every list of acts.
-/
import Derived.Test.YthlhdgbpfdaodaaLock10
import Derived.Test.YthlhdgbpfdaodaaOpen
namespace Go.Proofs.Ythlhdgbpfdaodaa
open Go.RowKit

theorem lockPlays_no (w : World) (a0 : Int) (a1 : Option Addr) (len1 cap1 : Nat) (h : a0 < 1 ∨ 64 < a0) :
    Calls Try.prog 3 #[.int .i64 a0, .slice a1 len1 cap1] w fun e w' => e = .returned (.bool true) ∧ Below w.heap.size w w' := by
  have e : (decide (1 ≤ a0) && decide (a0 ≤ 64)) = false := by
    rcases h with h | h
    · simp; omega
    · simp; omega
  have H := Lib.hid h
  have E := Lib.hid e
  clear h e
  go_enter Try.func3, Try.ntmps3
  go_wp2_with fail
  refine (shown_true _).mono ?_
  rintro e w1 ⟨rfl, h1⟩
  have H1 := Lib.hid h1; clear h1
  go_wp2_with fail
  refine (lk_new_no w1 a0 H.out).mono ?_
  rintro e w2 ⟨rfl, rfl⟩
  go_wp2_with fail
  refine (rf_takes w1 a0).mono ?_
  rw [E.out]
  rintro e w2 ⟨rfl, rfl⟩
  go_wp2_with fail
  go_ret
  exact ⟨rfl, H1.out.below (Nat.le_refl _) (fun _ h => h.elim)⟩

set_option maxRecDepth 100000 in
set_option maxRecDepth 100000 in
set_option maxHeartbeats 3200000 in
theorem lockPlays_yes (w : World) (wide : Nat) (hw1 : 1 ≤ wide) (hw2 : wide ≤ 64) (a1 : Option Addr) (len1 cap1 : Nat) (V1 : Nat → Nat → Value) (s1 : SRow w a1 len1 2 V1)
    (t1_0 : ∀ i, i < len1 → ∃ x : Int, V1 i 0 = .int .i64 x ∧ (Lit.int .i64 x).wf = true) (t1_1 : ∀ i, i < len1 → ∃ x : Int, V1 i 1 = .int .u64 x ∧ (Lit.int .u64 x).wf = true) (y1 : len1 ≤ 140737488351232) :
    Calls Try.prog 3 #[.int .i64 wide, .slice a1 len1 cap1] w fun e w' => e = .returned (.bool true) ∧ Below w.heap.size w w' := by
  have e : (decide (1 ≤ (wide : Int)) && decide ((wide : Int) ≤ 64)) = true := by simp; omega
  have E := Lib.hid e; have S1 := Lib.hid s1; have T0 := Lib.hid t1_0; have T1 := Lib.hid t1_1
  clear e s1 t1_0 t1_1
  go_enter Try.func3, Try.ntmps3
  go_wp2_with fail
  refine (shown_true _).mono ?_
  rintro e w1 ⟨rfl, h1⟩
  have H1 := Lib.hid h1; clear h1
  go_wp2_with fail
  refine (on_new w1 wide hw1 hw2).mono ?_
  rintro e w2 ⟨rfl, h2⟩
  have H2 := Lib.hid h2; clear h2
  go_wp2_with fail
  refine (rf_takes w2 wide).mono ?_
  rw [E.out]
  rintro e w3 ⟨rfl, rfl⟩
  go_wp2_with fail
  have hS : LpAt w1 w1.heap.size w2.heap.size wide 0 (w2.alloc (.cells #[.int .i64 wide, .slice none 0 0, .int .i64 0] RfT)) := by
    obtain ⟨fp, h1, h2, h3⟩ := H2.out
    have hs := h2.size
    refine ⟨[], Nat.le_refl _, fp, none, 0, h1.chg ((Chg.refl (fun _ => False) w2).alloc _) (fun _ _ h => h), ⟨Blk.new w2 _ _, ?_, by simp⟩, ?_, h3, ?_, h2.alloc _⟩
    · exact World.ownsRow_nil _ _ _ _
    · rintro k hk (rfl | ⟨a, ha, _⟩)
      · have := h1.fps _ hk; omega
      · cases ha
    · rintro k (rfl | ⟨a, ha, _⟩)
      · exact hs
      · cases ha
  have HS := Lib.hid hS; clear hS
  go_loopw [10] (fun i wr => ∃ k : Nat, k ≤ len1 ∧ i = .int .i64 k ∧ Hid (LpAt w1 w1.heap.size w2.heap.size wide k wr)) (fun i _ => len1 - (intOf i).toNat)
  case atStart => exact ⟨0, Nat.zero_le _, rfl, HS⟩
  case round =>
    obtain ⟨k, hk, rfl, HR⟩ := hrel
    by_cases hlt : k < len1
    · obtain ⟨ab, off, rfl, hab, hcell⟩ : ∃ ab off, a1 = some ⟨ab, off, none⟩ ∧ ab < w.heap.size ∧ ∀ i, i < len1 → ∀ j, j < 2 → w.cell? ⟨ab, off + (i * 2 + j), none⟩ = some (V1 i j) := by
        rcases S1.out with h | h
        · omega
        · exact h
      obtain ⟨kd, hkd, _⟩ := T0.out k hlt
      obtain ⟨tk, htk, htw⟩ := T1.out k hlt
      obtain ⟨t, rfl⟩ := Int.eq_ofNat_of_zero_le (show 0 ≤ tk by simp [Lit.wf, IntKind.min, IntKind.max, IntKind.signed, IntKind.bits] at htw; omega)
      obtain ⟨L, hL, hB⟩ := HR.out
      have hcnt : L.count true ≤ L.length := List.count_le_length
      have f0 : ∀ wX, Chg (fun _ => False) w1 wX → wX.cell? ⟨ab, off + k * 2, none⟩ = some (.int .i64 kd) := by
        intro wX hX
        have hc := H1.out.trans hX
        rw [hc.cell hab (fun h => h), ← hkd]
        exact hcell k hlt 0 (by omega)
      have f1 : ∀ wX, Chg (fun _ => False) w1 wX → wX.cell? ⟨ab, off + k * 2 + 1, none⟩ = some (.int .u64 t) := by
        intro wX hX
        have hc := H1.out.trans hX
        rw [hc.cell hab (fun h => h), ← htk]
        exact hcell k hlt 1 (by omega)
      have c0 := f0 wr hB.chg
      have c1 := f1 wr hB.chg
      have k0 : (0 : Int) ≤ (k : Int) := by omega
      have k1 : (k : Int) < (len1 : Int) := by omega
      have CF := Lib.hid f1
      have HB0 := Lib.hid hB
      clear f0 f1 hcell hkd htk htw hB
      by_cases h1 : kd = 1
      · subst h1
        have ka := Lib.hid (bo_ask1 HB0.out (by omega))
        go_wp2_with fail
        refine ka.out.mono ?_
        rintro e wa ⟨rfl, ba⟩
        have kb := Lib.hid (bo_ask2 ba (by omega))
        clear ba ka
        go_wp2_with fail
        refine kb.out.mono ?_
        rintro e wb ⟨rfl, bb⟩
        have bc := bb
        rw [show L.count true = (L ++ [false]).count true from (cnt_app L).symm, show L.length + 1 = (L ++ [false]).length from by simp, ← bk_app L] at bc
        have hlen : (L ++ [false]).length ≤ k + 1 := by simp; omega
        have hcnt2 : (L ++ [false]).count true ≤ (L ++ [false]).length := List.count_le_length
        have BC := Lib.hid bc; clear bc bb kb
        generalize L ++ [false] = M at *
        have hbX := BC.out
        have CB := Lib.hid hbX.chg
        have cT := CF.out _ hbX.chg
        have k1 := bo_has1 hbX.drew t (by omega) (by omega)
        obtain ⟨q, hq⟩ : ∃ q, q = lkHas wide M.length (M.count true) (fun t => M.getD t false) t := ⟨_, rfl⟩
        rw [← hq] at k1
        have HB := Lib.hid hbX; have K1 := Lib.hid k1; have HQ := Lib.hid hq; clear hbX k1 hq
        go_wp2_with fail
        go_region_held3 (fun w' => w'.cell? ⟨ab, off + k * 2 + 1, none⟩ = some (.int .u64 (t : Int))) (first | assumption | (simp [*]; done))
          (first
            | (go_at_call 13; refine K1.out.mono ?_; rintro e v1 ⟨rfl, b1⟩; have cT1 := CF.out _ b1.chg; have k2 := bo_has2 b1 t (by omega) (by omega); rw [show rfHas wide (M.count true) (M) t = q from HQ.out.symm] at k2; have K2 := Lib.hid k2; have B1 := Lib.hid b1; clear b1 k2)
            | (go_at_call 14; refine K2.out.mono ?_; rintro e v2 ⟨rfl, b2⟩; have cT2 := CF.out _ b2.chg; have K3 := Lib.hid (bo_waiting1 b2 (by omega) (by omega)); have B2 := Lib.hid b2; clear b2)
            | (go_at_call 15; refine K3.out.mono ?_; rintro e v3 ⟨rfl, b3⟩; have cT3 := CF.out _ b3.chg; have K4 := Lib.hid (bo_waiting2 b3 (by omega) (by omega)); have B3 := Lib.hid b3; clear b3)
            | (go_at_call 16; refine K4.out.mono ?_; rintro e v4 ⟨rfl, b4⟩; have cT4 := CF.out _ b4.chg; have K5 := Lib.hid (bo_let1 b4 (by omega)); have B4 := Lib.hid b4; clear b4)
            | (go_at_call 17; refine K5.out.mono ?_; rintro e v5 ⟨rfl, b5⟩; have cT5 := CF.out _ b5.chg; have K6 := Lib.hid (bo_let2 b5 (by omega) (by omega)); have B5 := Lib.hid b5; clear b5)
            | (go_at_call 18; refine K6.out.mono ?_; rintro e v6 ⟨rfl, b6⟩; have cT6 := CF.out _ b6.chg; have B6 := Lib.hid b6; clear b6))
        go_wp2_with fail
        go_roundw
        case rel => exact ⟨k + 1, by omega, by go_num, ⟨M, hlen, B6.out⟩⟩
        case measure => simp [intOf]; omega
      · by_cases h3 : kd = 3
        · subst h3
          by_cases hr : lkHas wide L.length (L.count true) (fun t => L.getD t false) t = true
          · have ht : t < L.length := by simp [lkHas] at hr; omega
            have hf : L.getD t false = false := by simp [lkHas] at hr; simpa using hr.2
            have ka := Lib.hid (bo_pass1_yes HB0.out t (by omega) (by omega) hr)
            have HH := Lib.hid hr; clear hr
            have HF := Lib.hid hf; clear hf
            go_wp2_with fail
            refine ka.out.mono ?_
            rintro e wa ⟨rfl, ba⟩
            have cA := CF.out _ ba.chg
            have kb := Lib.hid (bo_pass2_yes ba t (by omega) (by omega) HH.out)
            clear ba ka
            go_wp2_with fail
            refine kb.out.mono ?_
            rintro e wb ⟨rfl, bb⟩
            have bc := bb
            have hlen0 : (L.set t true).length = L.length := by simp
            rw [show L.count true + 1 = (L.set t true).count true from (cnt_set L t ht HF.out).symm, ← bk_set L t ht] at bc
            have bd : Bo w1 w1.heap.size w2.heap.size wide (L.set t true).length ((L.set t true).count true) (fun t_1 => (L.set t true).getD t_1 false) (L.set t true) ((L.set t true).count true) wb := by rw [hlen0]; exact bc
            have hlen : (L.set t true).length ≤ k + 1 := by omega
            have hcnt2 : (L.set t true).count true ≤ (L.set t true).length := List.count_le_length
            have BC := Lib.hid bd; clear bc bb kb bd hlen0 HF HH
            generalize L.set t true = M at *
            have hbX := BC.out
            have CB := Lib.hid hbX.chg
            have cT := CF.out _ hbX.chg
            have k1 := bo_has1 hbX.drew t (by omega) (by omega)
            obtain ⟨q, hq⟩ : ∃ q, q = lkHas wide M.length (M.count true) (fun t => M.getD t false) t := ⟨_, rfl⟩
            rw [← hq] at k1
            have HB := Lib.hid hbX; have K1 := Lib.hid k1; have HQ := Lib.hid hq; clear hbX k1 hq
            go_wp2_with fail
            go_region_held3 (fun w' => w'.cell? ⟨ab, off + k * 2 + 1, none⟩ = some (.int .u64 (t : Int))) (first | assumption | (simp [*]; done))
              (first
                | (go_at_call 13; refine K1.out.mono ?_; rintro e v1 ⟨rfl, b1⟩; have cT1 := CF.out _ b1.chg; have k2 := bo_has2 b1 t (by omega) (by omega); rw [show rfHas wide (M.count true) (M) t = q from HQ.out.symm] at k2; have K2 := Lib.hid k2; have B1 := Lib.hid b1; clear b1 k2)
                | (go_at_call 14; refine K2.out.mono ?_; rintro e v2 ⟨rfl, b2⟩; have cT2 := CF.out _ b2.chg; have K3 := Lib.hid (bo_waiting1 b2 (by omega) (by omega)); have B2 := Lib.hid b2; clear b2)
                | (go_at_call 15; refine K3.out.mono ?_; rintro e v3 ⟨rfl, b3⟩; have cT3 := CF.out _ b3.chg; have K4 := Lib.hid (bo_waiting2 b3 (by omega) (by omega)); have B3 := Lib.hid b3; clear b3)
                | (go_at_call 16; refine K4.out.mono ?_; rintro e v4 ⟨rfl, b4⟩; have cT4 := CF.out _ b4.chg; have K5 := Lib.hid (bo_let1 b4 (by omega)); have B4 := Lib.hid b4; clear b4)
                | (go_at_call 17; refine K5.out.mono ?_; rintro e v5 ⟨rfl, b5⟩; have cT5 := CF.out _ b5.chg; have K6 := Lib.hid (bo_let2 b5 (by omega) (by omega)); have B5 := Lib.hid b5; clear b5)
                | (go_at_call 18; refine K6.out.mono ?_; rintro e v6 ⟨rfl, b6⟩; have cT6 := CF.out _ b6.chg; have B6 := Lib.hid b6; clear b6))
            go_wp2_with fail
            go_roundw
            case rel => exact ⟨k + 1, by omega, by go_num, ⟨M, hlen, B6.out⟩⟩
            case measure => simp [intOf]; omega
          · have hr' : lkHas wide L.length (L.count true) (fun t => L.getD t false) t = false := by simpa using hr
            have ka := Lib.hid (bo_pass1_no HB0.out t (by omega) (by omega) hr')
            have HH := Lib.hid hr'; clear hr hr'
            go_wp2_with fail
            refine ka.out.mono ?_
            rintro e wa ⟨rfl, ba⟩
            have cA := CF.out _ ba.chg
            have kb := Lib.hid (bo_pass2_no ba t (by omega) (by omega) HH.out)
            clear ba ka
            go_wp2_with fail
            refine kb.out.mono ?_
            rintro e wb ⟨rfl, bb⟩
            have hlen : L.length ≤ k + 1 := by omega
            have BC := Lib.hid bb; clear bb kb HH
            have hbX := BC.out
            have CB := Lib.hid hbX.chg
            have cT := CF.out _ hbX.chg
            have k1 := bo_has1 hbX.drew t (by omega) (by omega)
            obtain ⟨q, hq⟩ : ∃ q, q = lkHas wide L.length (L.count true) (fun t => L.getD t false) t := ⟨_, rfl⟩
            rw [← hq] at k1
            have HB := Lib.hid hbX; have K1 := Lib.hid k1; have HQ := Lib.hid hq; clear hbX k1 hq
            go_wp2_with fail
            go_region_held3 (fun w' => w'.cell? ⟨ab, off + k * 2 + 1, none⟩ = some (.int .u64 (t : Int))) (first | assumption | (simp [*]; done))
              (first
                | (go_at_call 13; refine K1.out.mono ?_; rintro e v1 ⟨rfl, b1⟩; have cT1 := CF.out _ b1.chg; have k2 := bo_has2 b1 t (by omega) (by omega); rw [show rfHas wide (L.count true) (L) t = q from HQ.out.symm] at k2; have K2 := Lib.hid k2; have B1 := Lib.hid b1; clear b1 k2)
                | (go_at_call 14; refine K2.out.mono ?_; rintro e v2 ⟨rfl, b2⟩; have cT2 := CF.out _ b2.chg; have K3 := Lib.hid (bo_waiting1 b2 (by omega) (by omega)); have B2 := Lib.hid b2; clear b2)
                | (go_at_call 15; refine K3.out.mono ?_; rintro e v3 ⟨rfl, b3⟩; have cT3 := CF.out _ b3.chg; have K4 := Lib.hid (bo_waiting2 b3 (by omega) (by omega)); have B3 := Lib.hid b3; clear b3)
                | (go_at_call 16; refine K4.out.mono ?_; rintro e v4 ⟨rfl, b4⟩; have cT4 := CF.out _ b4.chg; have K5 := Lib.hid (bo_let1 b4 (by omega)); have B4 := Lib.hid b4; clear b4)
                | (go_at_call 17; refine K5.out.mono ?_; rintro e v5 ⟨rfl, b5⟩; have cT5 := CF.out _ b5.chg; have K6 := Lib.hid (bo_let2 b5 (by omega) (by omega)); have B5 := Lib.hid b5; clear b5)
                | (go_at_call 18; refine K6.out.mono ?_; rintro e v6 ⟨rfl, b6⟩; have cT6 := CF.out _ b6.chg; have B6 := Lib.hid b6; clear b6))
            go_wp2_with fail
            go_roundw
            case rel => exact ⟨k + 1, by omega, by go_num, ⟨L, hlen, B6.out⟩⟩
            case measure => simp [intOf]; omega
        · have g1 : (kd == 1) = false := by simpa using h1
          have g3 : (kd == 3) = false := by simpa using h3
          have hlen : L.length ≤ k + 1 := by omega
          go_wp2_with fail
          have hbX := HB0.out
          have CB := Lib.hid hbX.chg
          have cT := CF.out _ hbX.chg
          have k1 := bo_has1 hbX.drew t (by omega) (by omega)
          obtain ⟨q, hq⟩ : ∃ q, q = lkHas wide L.length (L.count true) (fun t => L.getD t false) t := ⟨_, rfl⟩
          rw [← hq] at k1
          have HB := Lib.hid hbX; have K1 := Lib.hid k1; have HQ := Lib.hid hq; clear hbX k1 hq
          go_wp2_with fail
          go_region_held3 (fun w' => w'.cell? ⟨ab, off + k * 2 + 1, none⟩ = some (.int .u64 (t : Int))) (first | assumption | (simp [*]; done))
            (first
              | (go_at_call 13; refine K1.out.mono ?_; rintro e v1 ⟨rfl, b1⟩; have cT1 := CF.out _ b1.chg; have k2 := bo_has2 b1 t (by omega) (by omega); rw [show rfHas wide (L.count true) (L) t = q from HQ.out.symm] at k2; have K2 := Lib.hid k2; have B1 := Lib.hid b1; clear b1 k2)
              | (go_at_call 14; refine K2.out.mono ?_; rintro e v2 ⟨rfl, b2⟩; have cT2 := CF.out _ b2.chg; have K3 := Lib.hid (bo_waiting1 b2 (by omega) (by omega)); have B2 := Lib.hid b2; clear b2)
              | (go_at_call 15; refine K3.out.mono ?_; rintro e v3 ⟨rfl, b3⟩; have cT3 := CF.out _ b3.chg; have K4 := Lib.hid (bo_waiting2 b3 (by omega) (by omega)); have B3 := Lib.hid b3; clear b3)
              | (go_at_call 16; refine K4.out.mono ?_; rintro e v4 ⟨rfl, b4⟩; have cT4 := CF.out _ b4.chg; have K5 := Lib.hid (bo_let1 b4 (by omega)); have B4 := Lib.hid b4; clear b4)
              | (go_at_call 17; refine K5.out.mono ?_; rintro e v5 ⟨rfl, b5⟩; have cT5 := CF.out _ b5.chg; have K6 := Lib.hid (bo_let2 b5 (by omega) (by omega)); have B5 := Lib.hid b5; clear b5)
              | (go_at_call 18; refine K6.out.mono ?_; rintro e v6 ⟨rfl, b6⟩; have cT6 := CF.out _ b6.chg; have B6 := Lib.hid b6; clear b6))
          go_wp2_with fail
          go_roundw
          case rel => exact ⟨k + 1, by omega, by go_num, ⟨L, hlen, B6.out⟩⟩
          case measure => simp [intOf]; omega
    · have hlt' : decide ((k : Int) < (len1 : Int)) = false := by simp; omega
      obtain ⟨L, hL, hB⟩ := HR.out
      have HC := Lib.hid hB.chg
      clear hB
      go_wp2_with fail
      go_ret
      exact ⟨rfl, (H1.out.trans HC.out).below (Nat.le_refl _) (fun _ h => h.elim)⟩

theorem bytes_act : Try.prog.bytesOf 35 = 16 := by kernel_rfl

theorem lockPlays_walk (w : World) (a0 : Int) (_w0 : (Lit.int .i64 a0).wf = true) (a1 : Option Addr) (len1 cap1 : Nat) (V1 : Nat → Nat → Value) (s1 : SRow w a1 len1 2 V1)
    (t1_0 : ∀ i, i < len1 → ∃ x : Int, V1 i 0 = .int .i64 x ∧ (Lit.int .i64 x).wf = true) (t1_1 : ∀ i, i < len1 → ∃ x : Int, V1 i 1 = .int .u64 x ∧ (Lit.int .u64 x).wf = true) (y1 : len1 * Try.prog.bytesOf 35 ≤ 140737488351232) :
    Calls Try.prog 3 #[.int .i64 a0, .slice a1 len1 cap1] w fun e w' => e = .returned (.bool true) ∧ Below w.heap.size w w' := by
  by_cases h : a0 < 1 ∨ 64 < a0
  · exact lockPlays_no w a0 a1 len1 cap1 h
  · obtain ⟨n, rfl⟩ := Int.eq_ofNat_of_zero_le (show 0 ≤ a0 by omega)
    rw [bytes_act] at y1
    exact lockPlays_yes w n (by omega) (by omega) a1 len1 cap1 V1 s1 t1_0 t1_1 (by omega)
end Go.Proofs.Ythlhdgbpfdaodaa
