/-
  The walk of the statement ProgBytes: true, for every input.
-/
import Derived.Test.YtijooajhjcfneaaGreatQPgBytes2
import Derived.Test.YtijooajhjcfneaaGreatQPgLoads
namespace Go.Proofs.YtijooajhjcfneaaGreat
open Go.RowKit

theorem RQ.made {B : Nat} {w2 : World} {rq hd r g F u : Nat} {U : Nat → Nat} (hu : u < 18446744073709551616) (h2 : RPool w2 rq hd r g F 0 (fun _ => false) U u) (h0 : B ≤ rq ∧ B ≤ hd ∧ B ≤ r ∧ B ≤ g) (hz : B ≤ w2.heap.size) : RQ (fun k => k < B) w2 rq r F (frAll 0 F) U := by
  rw [tkn_all 0 F] at h2
  refine ⟨hd, g, u, hu, h2, fun k d e => ?_, fun k (e : k < B) => by omega⟩
  have e' : k < B := e
  rcases d with d | d | d | d <;> omega
theorem pb_nums (a d b a2 a3 br ab : Nat) (ha : a ≤ 8) (hd : d ≤ 1024) (hb : b ≤ 4096) (h2 : a2 = 256 * (1 + a)) (h3 : a3 = a2 + d) (hbr : br = 256 * (1 + a) + d + b) (hab : ab = a2 + b) :
    IntKind.u64.wrap (d : Int) = (d : Int) ∧ IntKind.u64.wrap (b : Int) = (b : Int) ∧ IntKind.u64.wrap ((br : Int) - (d : Int)) = (ab : Int) ∧ IntKind.u64.wrap ((ab : Int) - (b : Int)) = (a2 : Int) ∧ IntKind.u64.wrap ((a2 : Int) + (d : Int)) = (a3 : Int) := by
  refine ⟨u64_wrap_lt d (by omega), u64_wrap_lt b (by omega), ?_, ?_, ?_⟩
  · rw [show (br : Int) - (d : Int) = (ab : Int) by omega]; exact u64_wrap_lt _ (by omega)
  · rw [show (ab : Int) - (b : Int) = (a2 : Int) by omega]; exact u64_wrap_lt _ (by omega)
  · rw [show (a2 : Int) + (d : Int) = (a3 : Int) by omega]; exact u64_wrap_lt _ (by omega)
theorem convB (W : World) (b : Nat) (h : b ≤ 4096) : (convert 51 9 (.slice (some ⟨W.heap.size, 0, none⟩) b b)).run Tryz.prog (W.alloc (.cells (zeros b) ByT)) = .ok (.string (zerosB b)) (W.alloc (.cells (zeros b) ByT)) := by
  rw [row_string _ W.heap.size b (fun _ => 0) (row_zeros W b) 0 0 b b (fun _ => rfl) (by omega), memStr_noughts]
set_option maxRecDepth 100000 in
set_option maxHeartbeats 3200000 in
theorem progBytes_yes (w : World) (en : Int) (bb : Nat) (text data : ByteArray) (hd : data.size ≤ 1024) (hb4 : bb ≤ 4096) (ht : text.size ≤ 2048) (a a2 a3 : Nat) (s4 s5 : PS) (Z : ByteArray) (L : List (Int × Nat)) (K : BtP ⟨en, text, data, (bb : Nat)⟩ a a2 a3 s4 s5 Z L) :
    Calls Tryz.prog 4 #[.agg #[.int .i64 en, .string text, .string data, .int .i64 (bb : Nat)]] w fun e w' => e = .returned (.bool true) ∧ Below w.heap.size w w' := by
  obtain ⟨kl, km, ki1, ki2, ki3, ko1, ko2, kq, kp, kb, klen, ha8, h2, h3, hZ⟩ := K
  unfold Prg.val at kl km kq
  simp only [Int.toNat_natCast] at kl km ki1 ki2 ki3 kq hZ h3
  obtain ⟨br, hbr⟩ : ∃ br, br = 256 * (1 + a) + data.size + bb := ⟨_, rfl⟩
  rw [← hbr] at kl kq
  obtain ⟨ab, hab⟩ : ∃ ab, ab = a2 + bb := ⟨_, rfl⟩
  have NUM := Lib.hid (pb_nums a data.size bb a2 a3 br ab ha8 hd hb4 h2 h3 hbr hab)
  generalize hpc : 256 + en.toNat = pc at *
  have mk := fun W => makeB W bb hb4
  have cv := fun W => convB W bb hb4
  rw [← hZ] at cv
  have K0 := fun W => s_new W.heap.size W (Nat.le_refl _) 64 (by omega) (by omega)
  rw [show (64 : Int).toNat = 64 from rfl] at K0
  have K1 := fun B W (H : MT B W B 64 (fun _ => 0)) => f_new H (by omega) 0 (by omega)
  unfold NewF at K1
  have K2 := fun W => ref_new W 64 (by omega)
  have K3 := fun W r g (H : RM W r g 64 (fun _ => 0) 0) => rp_new W r g 64 0 0 (by omega) (fun _ => 0) H (Nat.zero_le _)
  rw [show ((0 : Nat) : Int) = 0 from rfl] at K1 K3
  rw [show ((64 : Nat) : Int) = 64 from rfl] at K2
  have HC := Lib.hid (And.intro (show (hartC pc).size = 35 from rfl) (show (hartC pc).all (·.oneCell') = true by as_aux_lemma => kernel_rfl))
  have KL := Lib.hid kl; have KM := Lib.hid km; have KI1 := Lib.hid ki1; have KI2 := Lib.hid ki2; have KI3 := Lib.hid ki3; have KO1 := Lib.hid ko1; have KO2 := Lib.hid ko2; have KQ := Lib.hid kq; have KP := Lib.hid kp; have KB := Lib.hid kb; have KN := Lib.hid klen
  have K0 := Lib.hid K0; have K1 := Lib.hid K1; have K2 := Lib.hid K2; have K3 := Lib.hid K3
  have X0 := Lib.hid (Blk.new w #[.int .i64 en, .string text, .string data, .int .i64 (bb : Nat)] 23)
  have C0 := Lib.hid (show Chg (fun _ => False) w (w.alloc (.cells #[.int .i64 en, .string text, .string data, .int .i64 (bb : Nat)] 23)) from (Chg.refl _ w).alloc _)
  clear kl km ki1 ki2 ki3 ko1 ko2 kq kp kb klen ha8 h2 h3 hZ hbr hpc hd hb4 ht hab
  go_enter Tryz.func4, Tryz.ntmps4
  go_wp2_with fail
  refine (p_shown _).mono ?_
  rintro e w1 ⟨rfl, b1⟩
  have X1 := Lib.hid ((chg_of_below b1).blk X0.out (fun a => a)); have C1 := Lib.hid (C0.out.trans (chg_of_below b1)); clear b1
  have HW := Lib.hid (show w.heap.size < w1.heap.size from X1.out.lt)
  have BW := Lib.hid (C1.out.below (Nat.le_refl _) (fun _ h => h.elim))
  go_wp2_with fail
  refine (K0.out w1).mono ?_
  rintro e w2 ⟨rfl, m1, b1⟩
  have M1 := Lib.hid (show MT w1.heap.size w2 w1.heap.size 64 (fun _ => 0) from ⟨0, by omega, m1⟩); have B1 := Lib.hid b1; clear m1 b1
  go_wp2_with fail
  refine (K1.out _ w2 M1.out).mono ?_
  rintro e w3 ⟨q, rfl, m1, b1⟩
  have M2 := Lib.hid m1; have B2 := Lib.hid (B1.out.trans b1); clear m1 b1
  have ADV := Lib.hid (fun (W W' : World) (h : Below w1.heap.size w1 W) (c : Chg (fun k => ¬ k < w1.heap.size) W W') => h.trans (c.below h.size (fun _ h => Nat.le_of_not_lt h)))
  have XB := Lib.hid (fun (W : World) (h : Below w1.heap.size w1 W) => show Blk W w.heap.size #[.int .i64 en, .string text, .string data, .int .i64 (bb : Nat)] 23 from (h.block _ HW.out).trans X1.out)
  generalize hBB : w1.heap.size = B at *
  have X3 := Lib.hid (XB.out w3 B2.out)
  have y0 := X3.out.cellv 0 _ rfl; have y1 := X3.out.cellv 1 _ rfl; have y2 := X3.out.cellv 2 _ rfl; have y3 := X3.out.cellv 3 _ rfl
  go_wp2_with fail
  refine (KL.out _ w3 q B M2.out).mono ?_
  rintro e w4 ⟨rfl, m4, c4⟩
  have B4 := Lib.hid (ADV.out _ _ B2.out c4)
  have M5 := Lib.hid (m4.nothing ((Chg.refl _ w4).alloc (.cells (hartC pc) 29))); have B5 := Lib.hid (ADV.out _ _ B4.out ((Chg.refl _ w4).alloc (.cells (hartC pc) 29)))
  have X5 := Lib.hid (XB.out _ B5.out)
  clear m4 c4 y0 y1 y2 y3
  have y0 := X5.out.cellv 0 _ rfl; have y1 := X5.out.cellv 1 _ rfl; have y2 := X5.out.cellv 2 _ rfl; have y3 := X5.out.cellv 3 _ rfl
  go_wp2_with (refine wpList_store_fresh rfl 29 (.tmp 9) (.tmp 45) rfl (hartC pc) rfl rfl (by as_aux_lemma => kernel_rfl) (by as_aux_lemma => kernel_rfl) HC.out.2 ?_)
  clear y0 y1 y2 y3
  generalize w4.alloc (.cells (hartC pc) 29) = w5 at *
  refine (KM.out w5).mono ?_
  rintro e w6 ⟨rfl, c⟩
  have M6 := Lib.hid (M5.out.nothing c); have B6 := Lib.hid (ADV.out _ _ B5.out (c.mono fun _ a => a.elim)); clear c
  have X6 := Lib.hid (XB.out _ B6.out)
  have y0 := X6.out.cellv 0 _ rfl; have y1 := X6.out.cellv 1 _ rfl; have y2 := X6.out.cellv 2 _ rfl; have y3 := X6.out.cellv 3 _ rfl
  go_wp2_with fail
  refine (KI1.out _ w6 q B M6.out).mono ?_
  rintro e w7 ⟨rfl, m7, c7⟩
  have M7 := Lib.hid m7; have B7 := Lib.hid (ADV.out _ _ B6.out c7); clear m7 c7 y0 y1 y2 y3
  have X7 := Lib.hid (XB.out _ B7.out)
  have y0 := X7.out.cellv 0 _ rfl; have y1 := X7.out.cellv 1 _ rfl; have y2 := X7.out.cellv 2 _ rfl; have y3 := X7.out.cellv 3 _ rfl
  obtain ⟨n1, n2, n3, n4, n5⟩ := NUM.out
  go_wp2_with fail
  refine (KI2.out _ w7 q B M7.out).mono ?_
  rintro e w8 ⟨rfl, m8, c8⟩
  have M8 := Lib.hid m8; have B8 := Lib.hid (ADV.out _ _ B7.out c8); clear m8 c8 y0 y1 y2 y3
  have X8 := Lib.hid (XB.out _ B8.out)
  have y0 := X8.out.cellv 0 _ rfl; have y1 := X8.out.cellv 1 _ rfl; have y2 := X8.out.cellv 2 _ rfl; have y3 := X8.out.cellv 3 _ rfl
  go_wp2_with fail
  refine (KI3.out _ w8 q B M8.out).mono ?_
  rintro e w9 ⟨rfl, m9, c9⟩
  have M9 := Lib.hid m9; have B9 := Lib.hid (ADV.out _ _ B8.out c9); clear m9 c9 y0 y1 y2 y3 n1 n2 n3 n4 n5
  have X9 := Lib.hid (XB.out _ B9.out)
  have y0 := X9.out.cellv 0 _ rfl; have y1 := X9.out.cellv 1 _ rfl; have y2 := X9.out.cellv 2 _ rfl; have y3 := X9.out.cellv 3 _ rfl
  go_wp2_with fail
  have M10 := Lib.hid (M9.out.nothing ((Chg.refl _ w9).alloc (.cells (zeros bb) ByT))); have B10 := Lib.hid (ADV.out _ _ B9.out ((Chg.refl _ w9).alloc (.cells (zeros bb) ByT)))
  clear mk cv y0 y1 y2 y3
  generalize w9.alloc (.cells (zeros bb) ByT) = w10 at *
  refine (KO1.out _ w10 q B M10.out).mono ?_
  rintro e w11 ⟨rfl, m11, c11⟩
  have M11 := Lib.hid m11; have B11 := Lib.hid (ADV.out _ _ B10.out c11); clear m11 c11
  go_wp2_with fail
  refine (KO2.out _ w11 q B M11.out).mono ?_
  rintro e w12 ⟨rfl, m12, c12⟩
  have B12 := Lib.hid (ADV.out _ _ B11.out c12); clear m12 c12
  have hB12 : B ≤ w12.heap.size := hBB ▸ B12.out.size
  go_wp2_with fail
  refine (K2.out w12).mono ?_
  rintro e w13 ⟨rfl, m13, c13, h13⟩
  have B13 := Lib.hid (ADV.out _ _ B12.out (c13.mono fun _ a => a.elim))
  have M13 := Lib.hid m13
  have hB13 : B ≤ w13.heap.size := hBB ▸ B13.out.size
  clear m13 c13 h13
  go_wp2_with fail
  refine (K3.out w13 _ _ M13.out).mono ?_
  rintro e w14 ⟨rfl, p14, c14⟩
  have B14 := Lib.hid (ADV.out _ _ B13.out (c14.mono fun _ a => a.elim))
  have hB14 : B ≤ w14.heap.size := hBB ▸ B14.out.size
  have Q14 := Lib.hid (RQ.made (B := B) (by omega) p14 ⟨by omega, hB13, by omega, hB12⟩ hB14)
  clear p14 c14
  have X14 := Lib.hid (XB.out _ B14.out)
  have y0 := X14.out.cellv 0 _ rfl; have y1 := X14.out.cellv 1 _ rfl; have y2 := X14.out.cellv 2 _ rfl; have y3 := X14.out.cellv 3 _ rfl
  go_wp2_with fail
  refine (KQ.out _ w14 _ _ Q14.out).mono ?_
  rintro e w15 ⟨rfl, q15, c15⟩
  have B15 := Lib.hid (ADV.out _ _ B14.out c15)
  have Q16 := Lib.hid (q15.nothing ((Chg.refl _ w15).alloc (.cells (hartC pc) 29))); have B16 := Lib.hid (ADV.out _ _ B15.out ((Chg.refl _ w15).alloc (.cells (hartC pc) 29)))
  clear q15 c15 y0 y1 y2 y3
  go_wp2_with (refine wpList_store_fresh rfl 29 (.tmp 24) (.tmp 150) rfl (hartC pc) rfl rfl (by as_aux_lemma => kernel_rfl) (by as_aux_lemma => kernel_rfl) HC.out.2 ?_)
  generalize w15.alloc (.cells (hartC pc) 29) = w16 at *
  refine (KP.out _ w16 _ _ Q16.out).mono ?_
  rintro e w17 ⟨svl, svt, rfl, hu, c17⟩
  obtain ⟨ao, cap, rfl, hcell⟩ := pg_bits hu
  have HCELL := Lib.hid hcell
  have B17 := Lib.hid (ADV.out _ _ B16.out c17)
  clear hu c17 hcell
  go_wp2_with fail
  go_loopw [29] (fun i wr => ∃ j : Nat, j ≤ L.length ∧ i = .int .i64 (j : Nat) ∧ wr = w17) (fun i _ => L.length - (intOf i).toNat)
  case atStart => exact ⟨0, Nat.zero_le _, rfl, rfl⟩
  case round =>
    obtain ⟨j, hj, rfl, rfl⟩ := hrel
    by_cases hlt : j < L.length
    · have d1 : decide ((j : Int) < (L.length : Int)) = true := decide_eq_true (by omega)
      have d0 : (0 : Int) ≤ (j : Int) := Int.natCast_nonneg _
      have d2 : (j : Int) < (L.length : Int) := by omega
      obtain ⟨g, rfl, hc⟩ := HCELL.out j hlt
      have N := Lib.hid (nd_s1' j (j + 1) rfl (by have := KN.out; omega))
      have HLT := Lib.hid hlt
      rcases KB.out j hlt with hb | hb
      · rw [hb] at hc
        have hc' : wr.cell? ⟨g, j * 3 + 1, none⟩ = some (.int .u64 27) := hc
        clear hc hb hlt
        obtain ⟨n1, n2⟩ := N.out
        go_wp2_with fail
        go_roundw
        case rel => exact ⟨j + 1, HLT.out, by go_num, trivial⟩
        case measure => have := HLT.out; clear n1 n2; simp [intOf]; omega
      · rw [hb] at hc
        have hc' : wr.cell? ⟨g, j * 3 + 1, none⟩ = some (.int .u64 23) := hc
        clear hc hb hlt
        obtain ⟨n1, n2⟩ := N.out
        go_wp2_with fail
        go_roundw
        case rel => exact ⟨j + 1, HLT.out, by go_num, trivial⟩
        case measure => have := HLT.out; clear n1 n2; simp [intOf]; omega
    · obtain rfl : j = L.length := by omega
      have d1 : decide ((L.length : Int) < (L.length : Int)) = false := decide_eq_false (by omega)
      clear hlt
      go_wp2_with fail
      go_ret
      exact ⟨rfl, BW.out.trans (B17.out.mono (Nat.le_of_lt HW.out))⟩
set_option maxRecDepth 100000 in
set_option maxHeartbeats 1600000 in
theorem progBytes_no (w : World) (en bs : Int) (text data : ByteArray) (kl : ∀ W q, Calls Tryz.prog 7 #[.pointer (some ⟨q, 0, none⟩), .agg #[.int .i64 en, .string text, .string data, .int .i64 bs]] W fun e w' => e = .returned (loadE 6) ∧ Chg (fun _ => False) W w')
    (km : ∀ W, Calls Tryz.prog 18 #[.agg #[.int .i64 en, .string text, .string data, .int .i64 bs]] W fun r w' => r = .returned (.bool false) ∧ Chg (fun _ => False) W w') :
    Calls Tryz.prog 4 #[.agg #[.int .i64 en, .string text, .string data, .int .i64 bs]] w fun e w' => e = .returned (.bool true) ∧ Below w.heap.size w w' := by
  have KL := Lib.hid kl; have KM := Lib.hid km
  have K1 := fun B W (H : MT B W B 64 (fun _ => 0)) => f_new H (by omega) 0 (by omega)
  unfold NewF at K1
  rw [show ((0 : Nat) : Int) = 0 from rfl] at K1
  have K0 := Lib.hid (fun W => s_new W.heap.size W (Nat.le_refl _) 64 (by omega) (by omega))
  rw [show (64 : Int).toNat = 64 from rfl] at K0
  have K1 := Lib.hid K1
  have KG := Lib.hid (fun (S : Nat → Prop) W q p (H : Pl S W q p 64 0 (frAll 0 64) (fun _ => 0)) => show Calls Tryz.prog 16 #[.pointer (some ⟨q, 0, none⟩)] W fun e w' => e = .returned (.int .i64 64) ∧ W = w' from by
    have k := f_leftS (s := v64B) H
    rw [v64B_left] at k
    exact k)
  have X0 := Lib.hid (Blk.new w #[.int .i64 en, .string text, .string data, .int .i64 bs] 23)
  have C0 := Lib.hid (show Chg (fun _ => False) w (w.alloc (.cells #[.int .i64 en, .string text, .string data, .int .i64 bs] 23)) from (Chg.refl _ w).alloc _)
  clear kl km
  go_enter Tryz.func4, Tryz.ntmps4
  go_wp2_with fail
  refine (p_shown _).mono ?_
  rintro e w1 ⟨rfl, b1⟩
  have X1 := Lib.hid ((chg_of_below b1).blk X0.out (fun a => a)); have C1 := Lib.hid (C0.out.trans (chg_of_below b1)); clear b1
  have HW := Lib.hid (show w.heap.size < w1.heap.size from X1.out.lt)
  have BW := Lib.hid (C1.out.below (Nat.le_refl _) (fun _ h => h.elim))
  go_wp2_with fail
  refine (K0.out w1).mono ?_
  rintro e w2 ⟨rfl, m1, b1⟩
  have M1 := Lib.hid (show MT w1.heap.size w2 w1.heap.size 64 (fun _ => 0) from ⟨0, by omega, m1⟩); have B1 := Lib.hid b1; clear m1 b1
  go_wp2_with fail
  refine (K1.out _ w2 M1.out).mono ?_
  rintro e w3 ⟨q, rfl, m1, b1⟩
  have M2 := Lib.hid m1; have B2 := Lib.hid (B1.out.trans b1); clear m1 b1
  have ADV := Lib.hid (fun (W W' : World) (h : Below w1.heap.size w1 W) (c : Chg (fun k => ¬ k < w1.heap.size) W W') => h.trans (c.below h.size (fun _ h => Nat.le_of_not_lt h)))
  have XB := Lib.hid (fun (W : World) (h : Below w1.heap.size w1 W) => show Blk W w.heap.size #[.int .i64 en, .string text, .string data, .int .i64 bs] 23 from (h.block _ HW.out).trans X1.out)
  generalize w1.heap.size = B at *
  have X3 := Lib.hid (XB.out w3 B2.out)
  have y0 := X3.out.cellv 0 _ rfl; have y1 := X3.out.cellv 1 _ rfl; have y2 := X3.out.cellv 2 _ rfl; have y3 := X3.out.cellv 3 _ rfl
  go_wp2_with fail
  refine (KL.out w3 q).mono ?_
  rintro e w4 ⟨rfl, c4⟩
  have B4 := Lib.hid (ADV.out _ _ B2.out (c4.mono fun _ a => a.elim))
  have M5 := Lib.hid ((M2.out.nothing c4).nothing ((Chg.refl _ w4).alloc (.cells hart0 29))); have B5 := Lib.hid (ADV.out _ _ B4.out ((Chg.refl _ w4).alloc (.cells hart0 29)))
  clear c4 y0 y1 y2 y3
  have X5 := Lib.hid (XB.out _ B5.out)
  have y0 := X5.out.cellv 0 _ rfl; have y1 := X5.out.cellv 1 _ rfl; have y2 := X5.out.cellv 2 _ rfl; have y3 := X5.out.cellv 3 _ rfl
  unfold loadE
  go_wp2_with (refine wpList_store_fresh rfl 29 (.tmp 9) (.tmp 45) rfl hart0 rfl rfl (by as_aux_lemma => kernel_rfl) (by as_aux_lemma => kernel_rfl) (by as_aux_lemma => kernel_rfl) ?_)
  clear y0 y1 y2 y3
  generalize w4.alloc (.cells hart0 29) = w5 at *
  refine (KM.out w5).mono ?_
  rintro e w6 ⟨rfl, c⟩
  have M6 := Lib.hid (M5.out.nothing c); have B6 := Lib.hid (ADV.out _ _ B5.out (c.mono fun _ a => a.elim)); clear c
  go_wp2_with fail
  refine (KG.out _ w6 q B M6.out).mono ?_
  rintro e wq ⟨rfl, hw⟩
  rw [← hw]
  clear hw wq
  go_wp2_with fail
  go_ret
  exact ⟨rfl, BW.out.trans (B6.out.mono (Nat.le_of_lt HW.out))⟩
set_option maxRecDepth 100000 in
theorem progBytes_walk (w : World) (en : Int) (_w0 : (Lit.int .i64 en).wf = true) (text : ByteArray) (_w1 : text.size ≤ maxLen) (data : ByteArray) (_w2 : data.size ≤ maxLen) (bs : Int) (_w3 : (Lit.int .i64 bs).wf = true) :
    Calls Tryz.prog 4 #[.agg #[.int .i64 en, .string text, .string data, .int .i64 bs]] w fun e w' => e = .returned (.bool true) ∧ Below w.heap.size w w' := by
  have hsm : (⟨en, text, data, bs⟩ : Prg).Small := ⟨by unfold maxLen at _w1; exact _w1, by unfold maxLen at _w2; exact _w2⟩
  cases hm : (⟨en, text, data, bs⟩ : Prg).may with
  | true =>
    obtain ⟨m1, m2, m3, m4, m5, m6, m7, m8, m9, m10⟩ := may_nums hm
    simp only at m2 m7 m8 m9
    obtain ⟨bb, rfl⟩ := Int.eq_ofNat_of_zero_le m8
    obtain ⟨a, a2, a3, s4, s5, Z, L, K⟩ := BtP.of hsm hm
    exact progBytes_yes w en bb text data m7 (by omega) m2 a a2 a3 s4 s5 Z L K
  | false =>
    have k1 := fun W q => p_load_form W q (⟨en, text, data, bs⟩ : Prg) hsm hm
    have k2 := fun W => q_may W (⟨en, text, data, bs⟩ : Prg) hsm
    rw [hm] at k2
    unfold Prg.val at k1 k2
    exact progBytes_no w en bs text data k1 k2
end Go.Proofs.YtijooajhjcfneaaGreat
