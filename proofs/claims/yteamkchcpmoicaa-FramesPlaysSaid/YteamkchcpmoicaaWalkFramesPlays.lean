/-
  The walk of the statement FramesPlays: true, for every input.
-/
import Derived.Test.YteamkchcpmoicaaFpState
import Derived.Test.YteamkchcpmoicaaRefTakes
import Derived.Test.YteamkchcpmoicaaOpenS
import Derived.LaidEqlPtr
namespace Go.Proofs.Yteamkchcpmoicaa
open Go.RowKit

theorem infoMem : (Try.prog.info? 94).isSome = true := by kernel_rfl
theorem same_mem (p : Nat) (w : World) : (binOp .eql 24 (.pointer (some ⟨p, 0, none⟩)) (.pointer (some ⟨p, 0, none⟩))).run Try.prog w = .ok (.bool true) w := by
  obtain ⟨j, hj⟩ := Option.isSome_iff_exists.1 infoMem
  exact run_eql_ptr_same w _ Try.underlying24 hj

/-- between the acts -/
def PlaysF (w : World) (q p rq r F first : Nat) (wr : World) : Prop := ∃ Fr V, Fp (fun k => k < w.heap.size) wr q p rq r F first Fr V Fr V ∧ Below w.heap.size w wr
theorem pstep {w W W' : World} (h : Below w.heap.size w W) (c : Chg (fun k => ¬ k < w.heap.size) W W') : Below w.heap.size w W' := h.trans (c.below h.size (fun _ h => Nat.le_of_not_lt h))

set_option maxRecDepth 100000 in
set_option maxHeartbeats 1600000 in
theorem framesPlays_walk (w : World) (sz : Int) (_v0 : (Lit.int .i64 sz).wf = true) (fi : Int) (_v1 : (Lit.int .i64 fi).wf = true) (a0 : Option Addr) (len0 cap0 : Nat) (V0 : Nat → Nat → Value) (s0 : SRow w a0 len0 3 V0)
    (t0 : ∀ i, i < len0 → ∃ x : Int, V0 i 0 = .int .i64 x ∧ (Lit.int .i64 x).wf = true) (t1 : ∀ i, i < len0 → ∃ x : Int, V0 i 1 = .int .i64 x ∧ (Lit.int .i64 x).wf = true)
    (t2 : ∀ i, i < len0 → ∃ x : Int, V0 i 2 = .int .u64 x ∧ (Lit.int .u64 x).wf = true)
    (y0 : len0 * Try.prog.bytesOf 34 ≤ 140737488351232) :
    Calls Try.prog 10 #[.int .i64 sz, .int .i64 fi, .slice a0 len0 cap0] w fun e w' => e = .returned (.bool true) ∧ Below w.heap.size w w' := by
  have hlen : len0 < 9223372036854775807 := by
    have e : Try.prog.bytesOf 34 = 24 := by kernel_rfl
    rw [e] at y0; omega
  have hT := fun W => Lib.hid (ref_takes W sz)
  by_cases hsz : sz < 1 ∨ 256 < sz
  · have hN := fun W => Lib.hid (pool_new_nil W fi)
    rw [show decide (1 ≤ sz ∧ sz ≤ 256) = false from decide_eq_false (by omega)] at hT
    have HN := Lib.hid hN; have HT := Lib.hid hT
    clear hN hT hsz s0 t0 t1 t2 y0 _v0 _v1
    go_enter Try.func10, Try.ntmps10
    go_wp2_with fail
    refine (fshown w).mono ?_
    rintro e w1 ⟨rfl, b1⟩
    have B1 := Lib.hid b1; clear b1
    go_wp2_with fail
    refine (HT.out w1).out.mono ?_
    rintro e w2 ⟨rfl, rfl⟩
    go_wp2_with fail
    refine (HN.out w1).out.mono ?_
    rintro e w2 ⟨rfl, rfl⟩
    go_wp2_with fail
    go_ret
    exact ⟨rfl, B1.out⟩
  rw [show decide (1 ≤ sz ∧ sz ≤ 256) = true from decide_eq_true (by omega)] at hT
  obtain ⟨F, rfl⟩ := Int.eq_ofNat_of_zero_le (show 0 ≤ sz by omega)
  have K0 := fun W (H : w.heap.size ≤ W.heap.size) => Lib.hid (s_new w.heap.size W H F (by omega) (by omega))
  rw [show (F : Int).toNat = F from rfl] at K0
  have KR := fun W => Lib.hid (ref_new W F (by omega))
  by_cases hfi : fi < 0 ∨ (F : Int) < fi
  · have K1 := fun W p (H : MT w.heap.size W p F (fun _ => 0)) => Lib.hid (f_new_no H fi hfi)
    have K2 := fun W r g V (H : RM W r g F V 0) => Lib.hid (rp_new_no W r g F 0 (by omega) V H fi hfi)
    have C0 := Lib.hid K0; have CR := Lib.hid KR; have C1 := Lib.hid K1; have C2 := Lib.hid K2; have HT := Lib.hid hT
    clear K0 KR K1 K2 hT hsz hfi s0 t0 t1 t2 y0 _v0 _v1
    go_enter Try.func10, Try.ntmps10
    go_wp2_with fail
    refine (fshown w).mono ?_
    rintro e w1 ⟨rfl, b1⟩
    have B1 := Lib.hid b1; clear b1
    go_wp2_with fail
    refine (HT.out w1).out.mono ?_
    rintro e w2 ⟨rfl, rfl⟩
    go_wp2_with fail
    refine (C0.out w1 B1.out.size).out.mono ?_
    rintro e w2 ⟨rfl, m2, b2⟩
    have M2 := Lib.hid (StepS.toT (by omega) m2); have B2 := Lib.hid (B1.out.trans b2); clear m2 b2
    generalize w1.heap.size = p at *
    go_wp2_with fail
    refine (C1.out w2 p M2.out).out.mono ?_
    rintro e w3 ⟨rfl, rfl⟩
    go_wp2_with fail
    refine (CR.out w2).out.mono ?_
    rintro e w3 ⟨rfl, m3, c3, _⟩
    have M3 := Lib.hid m3; have B3 := Lib.hid (B2.out.trans (c3.below B2.out.size (fun _ h => h.elim))); clear m3 c3
    go_wp2_with fail
    refine (C2.out w3 _ _ _ M3.out).out.mono ?_
    rintro e w4 ⟨rfl, rfl⟩
    go_wp2_with fail
    go_ret
    exact ⟨rfl, B3.out⟩
  obtain ⟨first, rfl⟩ := Int.eq_ofNat_of_zero_le (show 0 ≤ fi by omega)
  have hF2 : F ≤ 256 ∧ first ≤ F := by omega
  have K1 := fun W p (H : MT w.heap.size W p F (fun _ => 0)) => Lib.hid (f_new H hF2.1 first hF2.2)
  have K2 := fun W r g (H : RM W r g F (fun _ => 0) 0) => Lib.hid (rp_new W r g F first 0 hF2.1 (fun _ => 0) H hF2.2)
  rw [tkn_all first F] at K2
  have qm : wrap64 (256 * (F : Int)) = 256 * (F : Int) := by unfold wrap64; omega
  have C0 := Lib.hid K0; have CR := Lib.hid KR; have C1 := Lib.hid K1; have C2 := Lib.hid K2; have HT := Lib.hid hT; have HF := Lib.hid hF2
  have S0 := Lib.hid s0; have T0 := Lib.hid t0; have T1 := Lib.hid t1; have T2 := Lib.hid t2
  clear K0 KR K1 K2 hT hsz hfi s0 t0 t1 t2 y0 _v0 _v1 hF2
  go_enter Try.func10, Try.ntmps10
  go_wp2_with fail
  refine (fshown w).mono ?_
  rintro e w1 ⟨rfl, b1⟩
  have B1 := Lib.hid b1; clear b1
  go_wp2_with fail
  refine (HT.out w1).out.mono ?_
  rintro e w2 ⟨rfl, rfl⟩
  go_wp2_with fail
  refine (C0.out w1 B1.out.size).out.mono ?_
  rintro e w2 ⟨rfl, m2, b2⟩
  have M2 := Lib.hid (StepS.toT (by omega) m2); have B2 := Lib.hid (B1.out.trans b2); clear m2 b2
  generalize w1.heap.size = p at *
  go_wp2_with fail
  refine (C1.out w2 p M2.out).out.mono ?_
  rintro e w3 ⟨q, rfl, m3, b3⟩
  have M3 := Lib.hid m3; have B3 := Lib.hid (B2.out.trans b3); clear m3 b3
  go_wp2_with fail
  refine (CR.out w3).out.mono ?_
  rintro e w4 ⟨rfl, m4, c4, _⟩
  have M4 := Lib.hid (And.intro m4 c4); clear m4 c4
  go_wp2_with fail
  refine (C2.out w4 _ _ M4.out.1).out.mono ?_
  rintro e w5 ⟨rfl, m5, c5⟩
  have M5 := Lib.hid (show PlaysF w q p (w4.heap.size + 1) (w3.heap.size + 1) F first w5 from ⟨_, _, Fp.made M3.out M4.out.1 (by omega) M4.out.2 (by omega) (by omega) B3.out.size m5 c5,
    (B3.out.trans (M4.out.2.below B3.out.size (fun _ h => h.elim))).trans (c5.below (Nat.le_trans B3.out.size M4.out.2.size) (fun _ h => h.elim))⟩); clear m5 c5
  generalize w4.heap.size + 1 = rq at *
  generalize w3.heap.size + 1 = r at *
  go_wp2_with fail
  go_loopw [16] (fun i wr => ∃ k : Nat, k ≤ len0 ∧ i = .int .i64 k ∧ Hid (PlaysF w q p rq r F first wr)) (fun i _ => len0 - (intOf i).toNat)
  case atStart => exact ⟨0, Nat.zero_le _, rfl, M5⟩
  case round =>
    obtain ⟨k, hk, rfl, HR⟩ := hrel
    obtain ⟨Fr, V, hM, hBw⟩ := HR.out
    by_cases hlt : k < len0
    · obtain ⟨ab, off, rfl, hab, hcell⟩ : ∃ ab off, a0 = some ⟨ab, off, none⟩ ∧ ab < w.heap.size ∧ ∀ i, i < len0 → ∀ j, j < 3 → w.cell? ⟨ab, off + (i * 3 + j), none⟩ = some (V0 i j) := by
        rcases S0.out with h | h
        · omega
        · exact h
      obtain ⟨kd, hkd, _⟩ := T0.out k hlt
      obtain ⟨nn, hnn, _⟩ := T1.out k hlt
      obtain ⟨tk, htk, htw⟩ := T2.out k hlt
      obtain ⟨t, rfl, ht⟩ := u64_nat' htw
      have gb : ∀ W, Below w.heap.size w W → W.cell? ⟨ab, off + k * 3, none⟩ = some (.int .i64 kd) ∧ W.cell? ⟨ab, off + k * 3 + 1, none⟩ = some (.int .i64 nn) ∧ W.cell? ⟨ab, off + k * 3 + 2, none⟩ = some (.int .u64 t) := fun W h =>
        ⟨by rw [h.cell hab, ← hkd]; exact hcell k hlt 0 (by omega), by rw [h.cell hab, ← hnn]; exact hcell k hlt 1 (by omega), by rw [h.cell hab, ← htk]; exact hcell k hlt 2 (by omega)⟩
      have GB := Lib.hid gb
      have k0 : (0 : Int) ≤ (k : Int) := by omega
      have k1 : (k : Int) < (len0 : Int) := by omega
      have HM := Lib.hid hM; have HB := Lib.hid hBw; have HTT := Lib.hid ht
      obtain ⟨x0, x1, x2⟩ := gb _ hBw
      clear hcell hkd hnn htk htw gb hM hBw HR ht
      by_cases e1 : kd = 1
      · subst e1
        obtain ⟨L, l1, l2, l3, l4⟩ := least_free Fr first (F - first)
        have hF2 := HF.out
        rw [show first + (F - first) = F from by omega] at l2 l4
        by_cases hL : L < F
        · have TK := Lib.hid (fl_take_some HM.out HF.out.1 L l1 hL (l4 hL) l3)
          have TR := fun W (H : Fp (fun k => k < w.heap.size) W q p rq r F first (setF Fr L false) (clV F V (L : Int)) Fr V) => Lib.hid (fr_take_some H HF.out.1 L l1 hL (l4 hL) l3)
          have TR := Lib.hid TR
          clear l3 l4 hF2
          go_wp2_with fail
          refine TK.out.mono ?_
          rintro e w6 ⟨rfl, m6, b6⟩
          have M6 := Lib.hid m6; have B6 := Lib.hid (pstep HB.out b6); clear m6 b6
          obtain ⟨x0, x1, x2⟩ := GB.out _ B6.out
          go_wp2_with fail
          refine (TR.out w6 M6.out).out.mono ?_
          rintro e w7 ⟨rfl, m7, b7⟩
          have M7 := Lib.hid m7; have B7 := Lib.hid (pstep B6.out b7); clear m7 b7
          generalize setF Fr L false = Frz at *
          generalize clV F V (L : Int) = Vz at *
          obtain ⟨x0, x1, x2⟩ := GB.out _ B7.out
          obtain ⟨ff0, _, _, _⟩ := M7.out.fields
          have KL := fl_left (M7.out.nothing (Chg.refl _ _).drew)
          have KLr := fr_left (M7.out.nothing (Chg.refl _ _).drew) HF.out.1
          have KT := fl_taken (M7.out.nothing (Chg.refl _ _).drew) HF.out.1 nn
          have KTr := fun W (H : Fp (fun k => k < w.heap.size) W q p rq r F first Frz Vz Frz Vz) => Lib.hid (fr_taken H HF.out.1 nn)
          generalize (decide ((first : Int) ≤ nn ∧ nn < (F : Int)) && !Frz nn.toNat) = bb at *
          generalize cnt Frz first (F - first) = cc at *
          have KL := Lib.hid KL; have KLr := Lib.hid KLr; have KT := Lib.hid KT; have KTr := Lib.hid KTr
          go_wp2_with fail
          go_region_held3 (fun w' => w'.cell? ⟨ab, off + k * 3 + 1, none⟩ = some (.int .i64 nn)) (first | assumption | exact x1 | (simp [*]; done))
            (first
              | (go_at_call 20; refine KL.out.mono ?_; rintro e v1 ⟨rfl, rfl⟩)
              | (go_at_call 35; refine KLr.out.mono ?_; rintro e v1 ⟨rfl, rfl⟩)
              | (go_at_call 17; refine KT.out.mono ?_; rintro e v9 ⟨rfl, m9, b9⟩; have M9 := Lib.hid m9; have B9 := Lib.hid (pstep B7.out.drew b9); have x9 := (GB.out _ B9.out).2.1; clear m9 b9)
              | (go_at_call 36; refine (KTr.out _ M9.out).out.mono ?_; rintro e v1 ⟨rfl, rfl⟩))
          go_wp2_with fail
          go_roundw
          case rel => exact ⟨k + 1, by omega, by go_num, ⟨_, _, M9.out, B9.out⟩⟩
          case measure => simp [intOf]; omega
        · have l5 : ∀ g, first ≤ g → g < F → Fr g = false := fun g a c => l3 g a (by omega)
          have TK := Lib.hid (fl_take_none HM.out HF.out.1 l5)
          have TR := fun W (H : Fp (fun k => k < w.heap.size) W q p rq r F first Fr V Fr V) => Lib.hid (fr_take_none H HF.out.1 l5)
          have TR := Lib.hid TR
          clear l3 l4 l5 hF2
          go_wp2_with fail
          refine TK.out.mono ?_
          rintro e w6 ⟨rfl, m6, b6⟩
          have M6 := Lib.hid m6; have B6 := Lib.hid (pstep HB.out b6); clear m6 b6
          obtain ⟨x0, x1, x2⟩ := GB.out _ B6.out
          go_wp2_with fail
          refine (TR.out w6 M6.out).out.mono ?_
          rintro e w7 ⟨rfl, m7, b7⟩
          have M7 := Lib.hid m7; have B7 := Lib.hid (pstep B6.out b7); clear m7 b7
          generalize Fr = Frz at *
          generalize V = Vz at *
          obtain ⟨x0, x1, x2⟩ := GB.out _ B7.out
          obtain ⟨ff0, _, _, _⟩ := M7.out.fields
          have KL := fl_left (M7.out.nothing (Chg.refl _ _).drew)
          have KLr := fr_left (M7.out.nothing (Chg.refl _ _).drew) HF.out.1
          have KT := fl_taken (M7.out.nothing (Chg.refl _ _).drew) HF.out.1 nn
          have KTr := fun W (H : Fp (fun k => k < w.heap.size) W q p rq r F first Frz Vz Frz Vz) => Lib.hid (fr_taken H HF.out.1 nn)
          generalize (decide ((first : Int) ≤ nn ∧ nn < (F : Int)) && !Frz nn.toNat) = bb at *
          generalize cnt Frz first (F - first) = cc at *
          have KL := Lib.hid KL; have KLr := Lib.hid KLr; have KT := Lib.hid KT; have KTr := Lib.hid KTr
          go_wp2_with fail
          go_region_held3 (fun w' => w'.cell? ⟨ab, off + k * 3 + 1, none⟩ = some (.int .i64 nn)) (first | assumption | exact x1 | (simp [*]; done))
            (first
              | (go_at_call 20; refine KL.out.mono ?_; rintro e v1 ⟨rfl, rfl⟩)
              | (go_at_call 35; refine KLr.out.mono ?_; rintro e v1 ⟨rfl, rfl⟩)
              | (go_at_call 17; refine KT.out.mono ?_; rintro e v9 ⟨rfl, m9, b9⟩; have M9 := Lib.hid m9; have B9 := Lib.hid (pstep B7.out.drew b9); have x9 := (GB.out _ B9.out).2.1; clear m9 b9)
              | (go_at_call 36; refine (KTr.out _ M9.out).out.mono ?_; rintro e v1 ⟨rfl, rfl⟩))
          go_wp2_with fail
          go_roundw
          case rel => exact ⟨k + 1, by omega, by go_num, ⟨_, _, M9.out, B9.out⟩⟩
          case measure => simp [intOf]; omega
      by_cases e2 : kd = 2
      · subst e2
        by_cases hin : (first : Int) ≤ nn ∧ nn < (F : Int) ∧ Fr nn.toNat = false
        · obtain ⟨y, rfl⟩ := Int.eq_ofNat_of_zero_le (show 0 ≤ nn by omega)
          have TK := Lib.hid (fl_give_yes HM.out HF.out.1 y (by omega) (by omega) hin.2.2)
          have TR := fun W (H : Fp (fun k => k < w.heap.size) W q p rq r F first (setF Fr y true) (clV F V (y : Int)) Fr V) => Lib.hid (fr_give_yes H HF.out.1 y (by omega) (by omega) hin.2.2)
          have TR := Lib.hid TR
          clear hin
          go_wp2_with fail
          refine TK.out.mono ?_
          rintro e w6 ⟨rfl, m6, b6⟩
          have M6 := Lib.hid m6; have B6 := Lib.hid (pstep HB.out b6); clear m6 b6
          obtain ⟨x0, x1, x2⟩ := GB.out _ B6.out
          go_wp2_with fail
          refine (TR.out w6 M6.out).out.mono ?_
          rintro e w7 ⟨rfl, m7, b7⟩
          have M7 := Lib.hid m7; have B7 := Lib.hid (pstep B6.out b7); clear m7 b7
          generalize setF Fr y true = Frz at *
          generalize clV F V (y : Int) = Vz at *
          obtain ⟨x0, x1, x2⟩ := GB.out _ B7.out
          obtain ⟨ff0, _, _, _⟩ := M7.out.fields
          have KL := fl_left (M7.out.nothing (Chg.refl _ _).drew)
          have KLr := fr_left (M7.out.nothing (Chg.refl _ _).drew) HF.out.1
          have KT := fl_taken (M7.out.nothing (Chg.refl _ _).drew) HF.out.1 (y : Int)
          have KTr := fun W (H : Fp (fun k => k < w.heap.size) W q p rq r F first Frz Vz Frz Vz) => Lib.hid (fr_taken H HF.out.1 (y : Int))
          generalize (decide ((first : Int) ≤ (y : Int) ∧ (y : Int) < (F : Int)) && !Frz (y : Int).toNat) = bb at *
          generalize cnt Frz first (F - first) = cc at *
          have KL := Lib.hid KL; have KLr := Lib.hid KLr; have KT := Lib.hid KT; have KTr := Lib.hid KTr
          go_wp2_with fail
          go_region_held3 (fun w' => w'.cell? ⟨ab, off + k * 3 + 1, none⟩ = some (.int .i64 (y : Int))) (first | assumption | exact x1 | (simp [*]; done))
            (first
              | (go_at_call 20; refine KL.out.mono ?_; rintro e v1 ⟨rfl, rfl⟩)
              | (go_at_call 35; refine KLr.out.mono ?_; rintro e v1 ⟨rfl, rfl⟩)
              | (go_at_call 17; refine KT.out.mono ?_; rintro e v9 ⟨rfl, m9, b9⟩; have M9 := Lib.hid m9; have B9 := Lib.hid (pstep B7.out.drew b9); have x9 := (GB.out _ B9.out).2.1; clear m9 b9)
              | (go_at_call 36; refine (KTr.out _ M9.out).out.mono ?_; rintro e v1 ⟨rfl, rfl⟩))
          go_wp2_with fail
          go_roundw
          case rel => exact ⟨k + 1, by omega, by go_num, ⟨_, _, M9.out, B9.out⟩⟩
          case measure => simp [intOf]; omega
        · have TK := Lib.hid (fl_give_no HM.out HF.out.1 nn hin)
          have TR := fun W (H : Fp (fun k => k < w.heap.size) W q p rq r F first Fr V Fr V) => Lib.hid (fr_give_no H HF.out.1 nn hin)
          have TR := Lib.hid TR
          clear hin
          go_wp2_with fail
          refine TK.out.mono ?_
          rintro e w6 ⟨rfl, m6, b6⟩
          have M6 := Lib.hid m6; have B6 := Lib.hid (pstep HB.out b6); clear m6 b6
          obtain ⟨x0, x1, x2⟩ := GB.out _ B6.out
          go_wp2_with fail
          refine (TR.out w6 M6.out).out.mono ?_
          rintro e w7 ⟨rfl, m7, b7⟩
          have M7 := Lib.hid m7; have B7 := Lib.hid (pstep B6.out b7); clear m7 b7
          generalize Fr = Frz at *
          generalize V = Vz at *
          obtain ⟨x0, x1, x2⟩ := GB.out _ B7.out
          obtain ⟨ff0, _, _, _⟩ := M7.out.fields
          have KL := fl_left (M7.out.nothing (Chg.refl _ _).drew)
          have KLr := fr_left (M7.out.nothing (Chg.refl _ _).drew) HF.out.1
          have KT := fl_taken (M7.out.nothing (Chg.refl _ _).drew) HF.out.1 nn
          have KTr := fun W (H : Fp (fun k => k < w.heap.size) W q p rq r F first Frz Vz Frz Vz) => Lib.hid (fr_taken H HF.out.1 nn)
          generalize (decide ((first : Int) ≤ nn ∧ nn < (F : Int)) && !Frz nn.toNat) = bb at *
          generalize cnt Frz first (F - first) = cc at *
          have KL := Lib.hid KL; have KLr := Lib.hid KLr; have KT := Lib.hid KT; have KTr := Lib.hid KTr
          go_wp2_with fail
          go_region_held3 (fun w' => w'.cell? ⟨ab, off + k * 3 + 1, none⟩ = some (.int .i64 nn)) (first | assumption | exact x1 | (simp [*]; done))
            (first
              | (go_at_call 20; refine KL.out.mono ?_; rintro e v1 ⟨rfl, rfl⟩)
              | (go_at_call 35; refine KLr.out.mono ?_; rintro e v1 ⟨rfl, rfl⟩)
              | (go_at_call 17; refine KT.out.mono ?_; rintro e v9 ⟨rfl, m9, b9⟩; have M9 := Lib.hid m9; have B9 := Lib.hid (pstep B7.out.drew b9); have x9 := (GB.out _ B9.out).2.1; clear m9 b9)
              | (go_at_call 36; refine (KTr.out _ M9.out).out.mono ?_; rintro e v1 ⟨rfl, rfl⟩))
          go_wp2_with fail
          go_roundw
          case rel => exact ⟨k + 1, by omega, by go_num, ⟨_, _, M9.out, B9.out⟩⟩
          case measure => simp [intOf]; omega
      by_cases e3 : kd = 3
      · subst e3
        have TK := Lib.hid (fl_put HM.out HF.out.1 t HTT.out ⟨#[120]⟩ (by decide))
        have TR := fun W (H : Fp (fun k => k < w.heap.size) W q p rq r F first Fr (ptV F V t ⟨#[120]⟩) Fr V) => Lib.hid (fr_put H HF.out.1 t HTT.out ⟨#[120]⟩ (by decide))
        have TR := Lib.hid TR
        generalize ptV F V t ⟨#[120]⟩ = Vz at *
        go_wp2_with fail
        refine TK.out.mono ?_
        rintro e w6 ⟨rfl, m6, b6⟩
        have M6 := Lib.hid m6; have B6 := Lib.hid (pstep HB.out b6); clear m6 b6
        obtain ⟨x0, x1, x2⟩ := GB.out _ B6.out
        obtain ⟨ff0, _, _, _⟩ := M6.out.fields
        have TQ := Lib.hid (TR.out _ (M6.out.nothing (Chg.refl _ _).drew)).out
        go_wp2_with fail
        go_region_held3 (fun w' => w'.cell? ⟨rq, 0, none⟩ = some (.pointer (some ⟨r, 0, none⟩)) ∧ w'.cell? ⟨ab, off + k * 3 + 2, none⟩ = some (.int .u64 (t : Int))) (first | assumption | exact ⟨ff0, x2⟩ | (simp [*]; done))
          (first
            | (go_at_call 34; refine TQ.out.mono ?_; rintro e w7 ⟨rfl, m7, b7⟩; have B7 := Lib.hid (pstep B6.out.drew b7); have cT : w7.cell? ⟨rq, 0, none⟩ = some (.pointer (some ⟨r, 0, none⟩)) ∧ w7.cell? ⟨ab, off + k * 3 + 2, none⟩ = some (.int .u64 (t : Int)) := ⟨m7.fields.1, (GB.out _ B7.out).2.2⟩; have M7 := Lib.hid m7; clear m7 b7))
        generalize Fr = Frz at *
        obtain ⟨x0, x1, x2⟩ := GB.out _ B7.out
        obtain ⟨ff0, _, _, _⟩ := M7.out.fields
        have KL := fl_left (M7.out.nothing (Chg.refl _ _).drew)
        have KLr := fr_left (M7.out.nothing (Chg.refl _ _).drew) HF.out.1
        have KT := fl_taken (M7.out.nothing (Chg.refl _ _).drew) HF.out.1 nn
        have KTr := fun W (H : Fp (fun k => k < w.heap.size) W q p rq r F first Frz Vz Frz Vz) => Lib.hid (fr_taken H HF.out.1 nn)
        generalize (decide ((first : Int) ≤ nn ∧ nn < (F : Int)) && !Frz nn.toNat) = bb at *
        generalize cnt Frz first (F - first) = cc at *
        have KL := Lib.hid KL; have KLr := Lib.hid KLr; have KT := Lib.hid KT; have KTr := Lib.hid KTr
        go_wp2_with fail
        go_region_held3 (fun w' => w'.cell? ⟨ab, off + k * 3 + 1, none⟩ = some (.int .i64 nn)) (first | assumption | exact x1 | (simp [*]; done))
          (first
            | (go_at_call 20; refine KL.out.mono ?_; rintro e v1 ⟨rfl, rfl⟩)
            | (go_at_call 35; refine KLr.out.mono ?_; rintro e v1 ⟨rfl, rfl⟩)
            | (go_at_call 17; refine KT.out.mono ?_; rintro e v9 ⟨rfl, m9, b9⟩; have M9 := Lib.hid m9; have B9 := Lib.hid (pstep B7.out.drew b9); have x9 := (GB.out _ B9.out).2.1; clear m9 b9)
            | (go_at_call 36; refine (KTr.out _ M9.out).out.mono ?_; rintro e v1 ⟨rfl, rfl⟩))
        go_wp2_with fail
        go_roundw
        case rel => exact ⟨k + 1, by omega, by go_num, ⟨_, _, M9.out, B9.out⟩⟩
        case measure => simp [intOf]; omega
      have g1 : (kd == 1) = false := by simpa using e1
      have g2 : (kd == 2) = false := by simpa using e2
      have g3 : (kd == 3) = false := by simpa using e3
      generalize Fr = Frz at *
      generalize V = Vz at *
      obtain ⟨x0, x1, x2⟩ := GB.out _ HB.out
      obtain ⟨ff0, _, _, _⟩ := HM.out.fields
      have KL := fl_left (HM.out.nothing (Chg.refl _ _).drew)
      have KLr := fr_left (HM.out.nothing (Chg.refl _ _).drew) HF.out.1
      have KT := fl_taken (HM.out.nothing (Chg.refl _ _).drew) HF.out.1 nn
      have KTr := fun W (H : Fp (fun k => k < w.heap.size) W q p rq r F first Frz Vz Frz Vz) => Lib.hid (fr_taken H HF.out.1 nn)
      generalize (decide ((first : Int) ≤ nn ∧ nn < (F : Int)) && !Frz nn.toNat) = bb at *
      generalize cnt Frz first (F - first) = cc at *
      have KL := Lib.hid KL; have KLr := Lib.hid KLr; have KT := Lib.hid KT; have KTr := Lib.hid KTr
      go_wp2_with fail
      go_region_held3 (fun w' => w'.cell? ⟨ab, off + k * 3 + 1, none⟩ = some (.int .i64 nn)) (first | assumption | exact x1 | (simp [*]; done))
        (first
          | (go_at_call 20; refine KL.out.mono ?_; rintro e v1 ⟨rfl, rfl⟩)
          | (go_at_call 35; refine KLr.out.mono ?_; rintro e v1 ⟨rfl, rfl⟩)
          | (go_at_call 17; refine KT.out.mono ?_; rintro e v9 ⟨rfl, m9, b9⟩; have M9 := Lib.hid m9; have B9 := Lib.hid (pstep HB.out.drew b9); have x9 := (GB.out _ B9.out).2.1; clear m9 b9)
          | (go_at_call 36; refine (KTr.out _ M9.out).out.mono ?_; rintro e v1 ⟨rfl, rfl⟩))
      go_wp2_with fail
      go_roundw
      case rel => exact ⟨k + 1, by omega, by go_num, ⟨_, _, M9.out, B9.out⟩⟩
      case measure => simp [intOf]; omega
    · have hlt' : decide ((k : Int) < (len0 : Int)) = false := decide_eq_false (by omega)
      have hlt3 : ¬ k < len0 := hlt
      have hF2 := HF.out
      have e : cdG F 0 (256 * (F : Int)) = 0 := by unfold cdG; rw [if_neg (by omega), if_pos (by omega)]
      have e2 : gtS F V 0 (256 * (F : Int)) = memStr V 0 (F * 256) := by unfold gtS; rw [if_pos e, show (256 * (F : Int)).toNat = F * 256 from by omega]
      have KG := fl_get hM hF2.1 0 (by omega) (256 * (F : Int)) (by omega)
      rw [e, e2] at KG
      have KF := fun W (H : Fp (fun k => k < w.heap.size) W q p rq r F first Fr V Fr V) => H.fields
      generalize memStr V 0 (F * 256) = s at *
      have HG := Lib.hid KG; have HFD := Lib.hid KF; have HB := Lib.hid hBw
      have hpe := same_mem p
      clear hM hBw HR hlt KG KF hF2 e e2
      go_wp2_with fail
      refine HG.out.mono ?_
      rintro e w6 ⟨rfl, m6, b6⟩
      have M6 := Lib.hid m6; have B6 := Lib.hid (pstep HB.out b6); clear m6 b6
      obtain ⟨f0, g, f1, f2⟩ := HFD.out _ M6.out
      go_wp2_with fail
      refine (fl_mem M6.out).mono ?_
      rintro e w7 ⟨rfl, rfl⟩
      go_wp2_with fail
      go_ret
      exact ⟨ret_bool (by simp), B6.out⟩
end Go.Proofs.Yteamkchcpmoicaa
