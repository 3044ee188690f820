/-
  The walk of the statement FramesLeast: true, for every input.
-/
import Derived.Test.YteamkchcpmoicaaFrLeast
import Derived.Test.YteamkchcpmoicaaOpenS
namespace Go.Proofs.Yteamkchcpmoicaa
open Go.RowKit

/-- between the acts -/
def LeastAt (w : World) (q p F first : Nat) (wr : World) : Prop := ∃ Fr V, Pl (fun k => k < w.heap.size) wr q p F first Fr V ∧ Below w.heap.size w wr
theorem lstep {w W W' : World} (h : Below w.heap.size w W) (c : Chg (fun k => ¬ k < w.heap.size) W W') : Below w.heap.size w W' := h.trans (c.below h.size (fun _ h => Nat.le_of_not_lt h))

set_option maxRecDepth 100000 in
set_option maxHeartbeats 1600000 in
theorem framesLeast_walk (w : World) (sz : Int) (_v0 : (Lit.int .i64 sz).wf = true) (fi : Int) (_v1 : (Lit.int .i64 fi).wf = true) (a0 : Option Addr) (len0 cap0 : Nat) (V0 : Nat → Nat → Value) (s0 : SRow w a0 len0 3 V0)
    (t0 : ∀ i, i < len0 → ∃ x : Int, V0 i 0 = .int .i64 x ∧ (Lit.int .i64 x).wf = true) (t1 : ∀ i, i < len0 → ∃ x : Int, V0 i 1 = .int .i64 x ∧ (Lit.int .i64 x).wf = true)
    (t2 : ∀ i, i < len0 → ∃ x : Int, V0 i 2 = .int .u64 x ∧ (Lit.int .u64 x).wf = true)
    (y0 : len0 * Try.prog.bytesOf 34 ≤ 140737488351232) :
    Calls Try.prog 3 #[.int .i64 sz, .int .i64 fi, .slice a0 len0 cap0] w fun e w' => e = .returned (.bool true) ∧ Below w.heap.size w w' := by
  have hlen : len0 < 9223372036854775807 := by
    have e : Try.prog.bytesOf 34 = 24 := by kernel_rfl
    rw [e] at y0; omega
  by_cases hg : sz < 1 ∨ 64 < sz ∨ fi < 0 ∨ sz < fi
  · have hn : sz < 1 ∨ (¬ sz < 1 ∧ 64 < sz) ∨ (¬ sz < 1 ∧ ¬ 64 < sz ∧ fi < 0) ∨ (¬ sz < 1 ∧ ¬ 64 < sz ∧ ¬ fi < 0 ∧ sz < fi) := by omega
    clear hg s0 t0 t1 t2 y0 _v0 _v1
    rcases hn with h | ⟨h, h1⟩ | ⟨h, h1, h2⟩ | ⟨h, h1, h2, h3⟩
    · have d0 : decide (sz < (1 : Int)) = true := decide_eq_true h
      go_enter Try.func3, Try.ntmps3
      go_wp2_with fail
      refine (fshown w).mono ?_
      rintro e w1 ⟨rfl, b1⟩
      have B1 := Lib.hid b1; clear b1
      go_wp2_with fail
      go_ret
      exact ⟨rfl, B1.out⟩
    · have d0 : decide (sz < (1 : Int)) = false := decide_eq_false h
      have d1 : decide ((64 : Int) < sz) = true := decide_eq_true h1
      go_enter Try.func3, Try.ntmps3
      go_wp2_with fail
      refine (fshown w).mono ?_
      rintro e w1 ⟨rfl, b1⟩
      have B1 := Lib.hid b1; clear b1
      go_wp2_with fail
      go_ret
      exact ⟨rfl, B1.out⟩
    · have d0 : decide (sz < (1 : Int)) = false := decide_eq_false h
      have d1 : decide ((64 : Int) < sz) = false := decide_eq_false h1
      have d2 : decide (fi < (0 : Int)) = true := decide_eq_true h2
      go_enter Try.func3, Try.ntmps3
      go_wp2_with fail
      refine (fshown w).mono ?_
      rintro e w1 ⟨rfl, b1⟩
      have B1 := Lib.hid b1; clear b1
      go_wp2_with fail
      go_ret
      exact ⟨rfl, B1.out⟩
    · have d0 : decide (sz < (1 : Int)) = false := decide_eq_false h
      have d1 : decide ((64 : Int) < sz) = false := decide_eq_false h1
      have d2 : decide (fi < (0 : Int)) = false := decide_eq_false h2
      have d3 : decide (sz < fi) = true := decide_eq_true h3
      go_enter Try.func3, Try.ntmps3
      go_wp2_with fail
      refine (fshown w).mono ?_
      rintro e w1 ⟨rfl, b1⟩
      have B1 := Lib.hid b1; clear b1
      go_wp2_with fail
      go_ret
      exact ⟨rfl, B1.out⟩
  obtain ⟨F, rfl⟩ := Int.eq_ofNat_of_zero_le (show 0 ≤ sz by omega)
  obtain ⟨first, rfl⟩ := Int.eq_ofNat_of_zero_le (show 0 ≤ fi by omega)
  have hF2 : 1 ≤ F ∧ F ≤ 64 ∧ first ≤ F := by omega
  have d0 : decide ((F : Int) < 1) = false := decide_eq_false (by omega)
  have d1 : decide ((64 : Int) < (F : Int)) = false := decide_eq_false (by omega)
  have d2 : decide ((first : Int) < (0 : Int)) = false := decide_eq_false (by omega)
  have d3 : decide ((F : Int) < (first : Int)) = false := decide_eq_false (by omega)
  have d4 : ¬ F < 1 := by omega
  have d5 : ¬ 64 < F := by omega
  have d6 : ¬ F < first := by omega
  have K0 := fun W (H : w.heap.size ≤ W.heap.size) => Lib.hid (s_new w.heap.size W H F (by omega) (by omega))
  rw [show (F : Int).toNat = F from rfl] at K0
  have K1 := fun W p (H : MT w.heap.size W p F (fun _ => 0)) => Lib.hid (f_new H (by omega) first (by omega))
  have HF := Lib.hid hF2; have C0 := Lib.hid K0; have C1 := Lib.hid K1
  have S0 := Lib.hid s0; have T0 := Lib.hid t0; have T1 := Lib.hid t1
  clear hF2 K0 K1 s0 t0 t1 t2 y0 _v0 _v1 hg
  go_enter Try.func3, Try.ntmps3
  go_wp2_with fail
  refine (fshown w).mono ?_
  rintro e w1 ⟨rfl, b1⟩
  have B1 := Lib.hid b1; clear b1
  go_wp2_with fail
  refine (C0.out w1 B1.out.size).out.mono ?_
  rintro e w2 ⟨rfl, m2, b2⟩
  have M2 := Lib.hid (StepS.toT (by omega) m2); have B2 := Lib.hid (B1.out.trans b2); clear m2 b2
  generalize w1.heap.size = p at *
  go_wp2_with fail
  refine (C1.out w2 p M2.out).out.mono ?_
  rintro e w3 ⟨q, rfl, m3, b3⟩
  have M3 := Lib.hid (show LeastAt w q p F first w3 from ⟨_, _, m3, B2.out.trans b3⟩); clear m3 b3
  go_wp2_with fail
  go_loopw [12] (fun i wr => ∃ k : Nat, k ≤ len0 ∧ i = .int .i64 k ∧ Hid (LeastAt w q p F first wr)) (fun i _ => len0 - (intOf i).toNat)
  case atStart => exact ⟨0, Nat.zero_le _, rfl, M3⟩
  case round =>
    obtain ⟨k, hk, rfl, HR⟩ := hrel
    obtain ⟨Fr, V, hM, hBw⟩ := HR.out
    by_cases hlt : k < len0
    · obtain ⟨ab, off, rfl, hab, hcell⟩ : ∃ ab off, a0 = some ⟨ab, off, none⟩ ∧ ab < w.heap.size ∧ ∀ i, i < len0 → ∀ j, j < 3 → w.cell? ⟨ab, off + (i * 3 + j), none⟩ = some (V0 i j) := by
        rcases S0.out with h | h
        · omega
        · exact h
      obtain ⟨kd, hkd, _⟩ := T0.out k hlt
      obtain ⟨nn, hnn, _⟩ := T1.out k hlt
      have gb : ∀ W, Below w.heap.size w W → W.cell? ⟨ab, off + k * 3, none⟩ = some (.int .i64 kd) ∧ W.cell? ⟨ab, off + k * 3 + 1, none⟩ = some (.int .i64 nn) := fun W h =>
        ⟨by rw [h.cell hab, ← hkd]; exact hcell k hlt 0 (by omega), by rw [h.cell hab, ← hnn]; exact hcell k hlt 1 (by omega)⟩
      have GB := Lib.hid gb
      have k0 : (0 : Int) ≤ (k : Int) := by omega
      have k1 : (k : Int) < (len0 : Int) := by omega
      have HM := Lib.hid hM; have HB := Lib.hid hBw
      obtain ⟨L, l1, l2, l3, l4⟩ := least_free Fr first (F - first)
      have hF2 := HF.out
      rw [show first + (F - first) = F from by omega] at l2 l4
      have HL := Lib.hid (And.intro l3 l4)
      have FT := fun W Fr V f (H : Pl (fun k => k < w.heap.size) W q p F first Fr V) => Lib.hid (f_taken H (by omega) f)
      have FG := fun W Fr V (H : Pl (fun k => k < w.heap.size) W q p F first Fr V) => Lib.hid (f_give_any H (by omega) nn)
      have CT := Lib.hid FT; have CG := Lib.hid FG
      clear hcell hkd hnn gb hM hBw l3 l4 hF2 FT FG HR
      by_cases hL : L < F
      · by_cases e1 : kd = 1
        · subst e1
          go_wp2_with fail
          go_loopw [13] (fun l wr => ∃ j : Nat, first ≤ j ∧ j ≤ L ∧ l = .int .i64 j ∧ Hid (Pl (fun k => k < w.heap.size) wr q p F first Fr V ∧ Below w.heap.size w wr)) (fun l _ => F - (intOf l).toNat)
          case atStart => exact ⟨first, Nat.le_refl _, l1, rfl, HM.out, HB.out⟩
          case round =>
            obtain ⟨j, j1, j2, rfl, HJ⟩ := hrel
            by_cases hjL : j < L
            · have j3 : decide ((j : Int) < (F : Int)) = true := decide_eq_true (by omega)
              have HT := (CT.out wr Fr V (j : Int) HJ.out.1).out
              rw [tkn_int, show tkn Fr first F j = true from by unfold tkn; rw [HL.out.1 j j1 hjL, decide_eq_true (by omega)]; rfl] at HT
              have HT := Lib.hid HT
              go_wp2_with fail
              refine HT.out.mono ?_
              rintro e w8 ⟨rfl, m8, b8⟩
              have M8 := Lib.hid (And.intro m8 (lstep HJ.out.2 b8)); clear m8 b8
              go_wp2_with fail
              go_roundw
              case rel => exact ⟨j + 1, by omega, by omega, by go_num, M8⟩
              case measure => simp [intOf]; omega
            · obtain rfl : j = L := by omega
              have HT := (CT.out wr Fr V (j : Int) HJ.out.1).out
              rw [tkn_int, show tkn Fr first F j = false from by unfold tkn; rw [HL.out.2 hL]; simp] at HT
              have HT := Lib.hid HT
              have j1 : decide ((j : Int) < (F : Int)) = true := decide_eq_true (by omega)
              go_wp2_with fail
              refine HT.out.mono ?_
              rintro e w5 ⟨rfl, m5, b5⟩
              have M5 := Lib.hid m5; have B5 := Lib.hid (lstep HJ.out.2 b5); clear m5 b5
              obtain ⟨x0, x1⟩ := GB.out _ B5.out
              have TK := Lib.hid (f_take_some M5.out (by have := HF.out; omega) j (by omega) hL (HL.out.2 hL) HL.out.1)
              go_wp2_with fail
              refine TK.out.mono ?_
              rintro e w6 ⟨rfl, m6, b6⟩
              have B6 := Lib.hid (lstep B5.out b6); clear b6
              generalize setF Fr j false = Frz at *
              generalize clV F V (j : Int) = Vz at *
              have M6 := Lib.hid m6; clear m6
              go_wp2_with fail
              go_loopw [16, 17] (fun m i wr => ∃ j : Nat, j ≤ F ∧ i = .int .i64 j ∧ m = .int .i64 (tct Frz first F j : Nat) ∧ Hid (Pl (fun k => k < w.heap.size) wr q p F first Frz Vz ∧ Below w.heap.size w wr)) (fun _ i _ => F - (intOf i).toNat)
              case atStart => exact ⟨0, Nat.zero_le _, rfl, rfl, M6.out, B6.out⟩
              case round =>
                obtain ⟨j, hj, rfl, rfl, HJ⟩ := hrel
                have hF2 := HF.out
                have hcn := tct_le Frz first F j
                by_cases hjF : j < F
                · have j1 : decide ((j : Int) < (F : Int)) = true := decide_eq_true (by omega)
                  have HT := Lib.hid (show Calls _ _ _ _ (StepF _ _ _ _ _ _ _ _ (.bool (tkn Frz first F j))) from tkn_int Frz first F j ▸ (CT.out wr Frz Vz (j : Int) HJ.out.1).out)
                  have HCS := Lib.hid (show tct Frz first F (j + 1) = tct Frz first F j + (if tkn Frz first F j then 1 else 0) from tct_succ Frz first F j)
                  generalize tkn Frz first F j = bj at *
                  generalize tct Frz first F j = cj at *
                  have q1 : wrap64 ((cj : Int) + 1) = (cj : Int) + 1 := by unfold wrap64; omega
                  clear hcn hF2
                  cases bj with
                  | true =>
                    go_wp2_with fail
                    refine HT.out.mono ?_
                    rintro e w8 ⟨rfl, m8, b8⟩
                    have M8 := Lib.hid (And.intro m8 (lstep HJ.out.2 b8)); clear m8 b8
                    go_wp2_with fail
                    go_roundw
                    case rel => exact ⟨j + 1, by omega, by go_num, by rw [HCS.out, q1]; simp, M8⟩
                    case measure => simp [intOf]; omega
                  | false =>
                    go_wp2_with fail
                    refine HT.out.mono ?_
                    rintro e w8 ⟨rfl, m8, b8⟩
                    have M8 := Lib.hid (And.intro m8 (lstep HJ.out.2 b8)); clear m8 b8
                    go_wp2_with fail
                    go_roundw
                    case rel => exact ⟨j + 1, by omega, by go_num, by rw [HCS.out]; simp, M8⟩
                    case measure => simp [intOf]; omega
                · obtain rfl : j = F := by omega
                  have hsum := tct_sum Frz first j hF2.2.2
                  have hLf := f_left HJ.out.1
                  generalize tct Frz first j j = cj at *
                  generalize cnt Frz first (j - first) = cl at *
                  have q1 : wrap64 ((cj : Int) + (cl : Int)) = (cj : Int) + (cl : Int) := by unfold wrap64; omega
                  have q2 : wrap64 ((j : Int) - (first : Int)) = (cj : Int) + (cl : Int) := by rw [show (j : Int) - (first : Int) = (cj : Int) + (cl : Int) from by clear q1 hcn; have h9 := hF2.2.2; clear hF2; omega]; exact q1
                  have g1 : ((cj : Int) + (cl : Int) != (j : Int) - (first : Int)) = false := by
                    have h8 : (j : Int) - (first : Int) = (cj : Int) + (cl : Int) := by clear q1 q2 hcn; have h9 := hF2.2.2; clear hF2; omega
                    rw [h8]; simp
                  have HLF := Lib.hid hLf
                  clear hLf hsum hcn hF2
                  go_wp2_with fail
                  refine HLF.out.mono ?_
                  rintro e w9 ⟨rfl, rfl⟩
                  go_wp2_with fail
                  go_roundw
                  case rel => exact ⟨k + 1, by omega, by go_num, ⟨_, _, HJ.out.1, HJ.out.2⟩⟩
                  case measure => simp [intOf]; omega
        by_cases e2 : kd = 2
        · subst e2
          go_wp2_with fail
          go_loopw [13] (fun l wr => ∃ j : Nat, first ≤ j ∧ j ≤ L ∧ l = .int .i64 j ∧ Hid (Pl (fun k => k < w.heap.size) wr q p F first Fr V ∧ Below w.heap.size w wr)) (fun l _ => F - (intOf l).toNat)
          case atStart => exact ⟨first, Nat.le_refl _, l1, rfl, HM.out, HB.out⟩
          case round =>
            obtain ⟨j, j1, j2, rfl, HJ⟩ := hrel
            by_cases hjL : j < L
            · have j3 : decide ((j : Int) < (F : Int)) = true := decide_eq_true (by omega)
              have HT := (CT.out wr Fr V (j : Int) HJ.out.1).out
              rw [tkn_int, show tkn Fr first F j = true from by unfold tkn; rw [HL.out.1 j j1 hjL, decide_eq_true (by omega)]; rfl] at HT
              have HT := Lib.hid HT
              go_wp2_with fail
              refine HT.out.mono ?_
              rintro e w8 ⟨rfl, m8, b8⟩
              have M8 := Lib.hid (And.intro m8 (lstep HJ.out.2 b8)); clear m8 b8
              go_wp2_with fail
              go_roundw
              case rel => exact ⟨j + 1, by omega, by omega, by go_num, M8⟩
              case measure => simp [intOf]; omega
            · obtain rfl : j = L := by omega
              have HT := (CT.out wr Fr V (j : Int) HJ.out.1).out
              rw [tkn_int, show tkn Fr first F j = false from by unfold tkn; rw [HL.out.2 hL]; simp] at HT
              have HT := Lib.hid HT
              have j1 : decide ((j : Int) < (F : Int)) = true := decide_eq_true (by omega)
              go_wp2_with fail
              refine HT.out.mono ?_
              rintro e w5 ⟨rfl, m5, b5⟩
              have M5 := Lib.hid m5; have B5 := Lib.hid (lstep HJ.out.2 b5); clear m5 b5
              obtain ⟨x0, x1⟩ := GB.out _ B5.out
              have GV := Lib.hid ((CG.out w5 Fr V M5.out).out)
              go_wp2_with fail
              refine GV.out.mono ?_
              rintro e w6 ⟨Frz, Vz, cz, rfl, m6, b6⟩
              have B6 := Lib.hid (lstep B5.out b6); clear b6
              have M6 := Lib.hid m6; clear m6
              go_wp2_with fail
              go_loopw [16, 17] (fun m i wr => ∃ j : Nat, j ≤ F ∧ i = .int .i64 j ∧ m = .int .i64 (tct Frz first F j : Nat) ∧ Hid (Pl (fun k => k < w.heap.size) wr q p F first Frz Vz ∧ Below w.heap.size w wr)) (fun _ i _ => F - (intOf i).toNat)
              case atStart => exact ⟨0, Nat.zero_le _, rfl, rfl, M6.out, B6.out⟩
              case round =>
                obtain ⟨j, hj, rfl, rfl, HJ⟩ := hrel
                have hF2 := HF.out
                have hcn := tct_le Frz first F j
                by_cases hjF : j < F
                · have j1 : decide ((j : Int) < (F : Int)) = true := decide_eq_true (by omega)
                  have HT := Lib.hid (show Calls _ _ _ _ (StepF _ _ _ _ _ _ _ _ (.bool (tkn Frz first F j))) from tkn_int Frz first F j ▸ (CT.out wr Frz Vz (j : Int) HJ.out.1).out)
                  have HCS := Lib.hid (show tct Frz first F (j + 1) = tct Frz first F j + (if tkn Frz first F j then 1 else 0) from tct_succ Frz first F j)
                  generalize tkn Frz first F j = bj at *
                  generalize tct Frz first F j = cj at *
                  have q1 : wrap64 ((cj : Int) + 1) = (cj : Int) + 1 := by unfold wrap64; omega
                  clear hcn hF2
                  cases bj with
                  | true =>
                    go_wp2_with fail
                    refine HT.out.mono ?_
                    rintro e w8 ⟨rfl, m8, b8⟩
                    have M8 := Lib.hid (And.intro m8 (lstep HJ.out.2 b8)); clear m8 b8
                    go_wp2_with fail
                    go_roundw
                    case rel => exact ⟨j + 1, by omega, by go_num, by rw [HCS.out, q1]; simp, M8⟩
                    case measure => simp [intOf]; omega
                  | false =>
                    go_wp2_with fail
                    refine HT.out.mono ?_
                    rintro e w8 ⟨rfl, m8, b8⟩
                    have M8 := Lib.hid (And.intro m8 (lstep HJ.out.2 b8)); clear m8 b8
                    go_wp2_with fail
                    go_roundw
                    case rel => exact ⟨j + 1, by omega, by go_num, by rw [HCS.out]; simp, M8⟩
                    case measure => simp [intOf]; omega
                · obtain rfl : j = F := by omega
                  have hsum := tct_sum Frz first j hF2.2.2
                  have hLf := f_left HJ.out.1
                  generalize tct Frz first j j = cj at *
                  generalize cnt Frz first (j - first) = cl at *
                  have q1 : wrap64 ((cj : Int) + (cl : Int)) = (cj : Int) + (cl : Int) := by unfold wrap64; omega
                  have q2 : wrap64 ((j : Int) - (first : Int)) = (cj : Int) + (cl : Int) := by rw [show (j : Int) - (first : Int) = (cj : Int) + (cl : Int) from by clear q1 hcn; have h9 := hF2.2.2; clear hF2; omega]; exact q1
                  have g1 : ((cj : Int) + (cl : Int) != (j : Int) - (first : Int)) = false := by
                    have h8 : (j : Int) - (first : Int) = (cj : Int) + (cl : Int) := by clear q1 q2 hcn; have h9 := hF2.2.2; clear hF2; omega
                    rw [h8]; simp
                  have HLF := Lib.hid hLf
                  clear hLf hsum hcn hF2
                  go_wp2_with fail
                  refine HLF.out.mono ?_
                  rintro e w9 ⟨rfl, rfl⟩
                  go_wp2_with fail
                  go_roundw
                  case rel => exact ⟨k + 1, by omega, by go_num, ⟨_, _, HJ.out.1, HJ.out.2⟩⟩
                  case measure => simp [intOf]; omega
        have g1 : (kd == 1) = false := by simpa using e1
        have g2 : (kd == 2) = false := by simpa using e2
        go_wp2_with fail
        go_loopw [13] (fun l wr => ∃ j : Nat, first ≤ j ∧ j ≤ L ∧ l = .int .i64 j ∧ Hid (Pl (fun k => k < w.heap.size) wr q p F first Fr V ∧ Below w.heap.size w wr)) (fun l _ => F - (intOf l).toNat)
        case atStart => exact ⟨first, Nat.le_refl _, l1, rfl, HM.out, HB.out⟩
        case round =>
          obtain ⟨j, j1, j2, rfl, HJ⟩ := hrel
          by_cases hjL : j < L
          · have j3 : decide ((j : Int) < (F : Int)) = true := decide_eq_true (by omega)
            have HT := (CT.out wr Fr V (j : Int) HJ.out.1).out
            rw [tkn_int, show tkn Fr first F j = true from by unfold tkn; rw [HL.out.1 j j1 hjL, decide_eq_true (by omega)]; rfl] at HT
            have HT := Lib.hid HT
            go_wp2_with fail
            refine HT.out.mono ?_
            rintro e w8 ⟨rfl, m8, b8⟩
            have M8 := Lib.hid (And.intro m8 (lstep HJ.out.2 b8)); clear m8 b8
            go_wp2_with fail
            go_roundw
            case rel => exact ⟨j + 1, by omega, by omega, by go_num, M8⟩
            case measure => simp [intOf]; omega
          · obtain rfl : j = L := by omega
            have HT := (CT.out wr Fr V (j : Int) HJ.out.1).out
            rw [tkn_int, show tkn Fr first F j = false from by unfold tkn; rw [HL.out.2 hL]; simp] at HT
            have HT := Lib.hid HT
            have j1 : decide ((j : Int) < (F : Int)) = true := decide_eq_true (by omega)
            go_wp2_with fail
            refine HT.out.mono ?_
            rintro e w5 ⟨rfl, m5, b5⟩
            have M5 := Lib.hid m5; have B5 := Lib.hid (lstep HJ.out.2 b5); clear m5 b5
            obtain ⟨x0, x1⟩ := GB.out _ B5.out
            generalize Fr = Frz at *
            generalize V = Vz at *
            go_wp2_with fail
            go_loopw [16, 17] (fun m i wr => ∃ j : Nat, j ≤ F ∧ i = .int .i64 j ∧ m = .int .i64 (tct Frz first F j : Nat) ∧ Hid (Pl (fun k => k < w.heap.size) wr q p F first Frz Vz ∧ Below w.heap.size w wr)) (fun _ i _ => F - (intOf i).toNat)
            case atStart => exact ⟨0, Nat.zero_le _, rfl, rfl, M5.out, B5.out⟩
            case round =>
              obtain ⟨j, hj, rfl, rfl, HJ⟩ := hrel
              have hF2 := HF.out
              have hcn := tct_le Frz first F j
              by_cases hjF : j < F
              · have j1 : decide ((j : Int) < (F : Int)) = true := decide_eq_true (by omega)
                have HT := Lib.hid (show Calls _ _ _ _ (StepF _ _ _ _ _ _ _ _ (.bool (tkn Frz first F j))) from tkn_int Frz first F j ▸ (CT.out wr Frz Vz (j : Int) HJ.out.1).out)
                have HCS := Lib.hid (show tct Frz first F (j + 1) = tct Frz first F j + (if tkn Frz first F j then 1 else 0) from tct_succ Frz first F j)
                generalize tkn Frz first F j = bj at *
                generalize tct Frz first F j = cj at *
                have q1 : wrap64 ((cj : Int) + 1) = (cj : Int) + 1 := by unfold wrap64; omega
                clear hcn hF2
                cases bj with
                | true =>
                  go_wp2_with fail
                  refine HT.out.mono ?_
                  rintro e w8 ⟨rfl, m8, b8⟩
                  have M8 := Lib.hid (And.intro m8 (lstep HJ.out.2 b8)); clear m8 b8
                  go_wp2_with fail
                  go_roundw
                  case rel => exact ⟨j + 1, by omega, by go_num, by rw [HCS.out, q1]; simp, M8⟩
                  case measure => simp [intOf]; omega
                | false =>
                  go_wp2_with fail
                  refine HT.out.mono ?_
                  rintro e w8 ⟨rfl, m8, b8⟩
                  have M8 := Lib.hid (And.intro m8 (lstep HJ.out.2 b8)); clear m8 b8
                  go_wp2_with fail
                  go_roundw
                  case rel => exact ⟨j + 1, by omega, by go_num, by rw [HCS.out]; simp, M8⟩
                  case measure => simp [intOf]; omega
              · obtain rfl : j = F := by omega
                have hsum := tct_sum Frz first j hF2.2.2
                have hLf := f_left HJ.out.1
                generalize tct Frz first j j = cj at *
                generalize cnt Frz first (j - first) = cl at *
                have q1 : wrap64 ((cj : Int) + (cl : Int)) = (cj : Int) + (cl : Int) := by unfold wrap64; omega
                have q2 : wrap64 ((j : Int) - (first : Int)) = (cj : Int) + (cl : Int) := by rw [show (j : Int) - (first : Int) = (cj : Int) + (cl : Int) from by clear q1 hcn; have h9 := hF2.2.2; clear hF2; omega]; exact q1
                have g1 : ((cj : Int) + (cl : Int) != (j : Int) - (first : Int)) = false := by
                  have h8 : (j : Int) - (first : Int) = (cj : Int) + (cl : Int) := by clear q1 q2 hcn; have h9 := hF2.2.2; clear hF2; omega
                  rw [h8]; simp
                have HLF := Lib.hid hLf
                clear hLf hsum hcn hF2
                go_wp2_with fail
                refine HLF.out.mono ?_
                rintro e w9 ⟨rfl, rfl⟩
                go_wp2_with fail
                go_roundw
                case rel => exact ⟨k + 1, by omega, by go_num, ⟨_, _, HJ.out.1, HJ.out.2⟩⟩
                case measure => simp [intOf]; omega
      · obtain rfl : L = F := by omega
        by_cases e1 : kd = 1
        · subst e1
          go_wp2_with fail
          go_loopw [13] (fun l wr => ∃ j : Nat, first ≤ j ∧ j ≤ L ∧ l = .int .i64 j ∧ Hid (Pl (fun k => k < w.heap.size) wr q p L first Fr V ∧ Below w.heap.size w wr)) (fun l _ => L - (intOf l).toNat)
          case atStart => exact ⟨first, Nat.le_refl _, l1, rfl, HM.out, HB.out⟩
          case round =>
            obtain ⟨j, j1, j2, rfl, HJ⟩ := hrel
            by_cases hjL : j < L
            · have j3 : decide ((j : Int) < (L : Int)) = true := decide_eq_true (by omega)
              have HT := (CT.out wr Fr V (j : Int) HJ.out.1).out
              rw [tkn_int, show tkn Fr first L j = true from by unfold tkn; rw [HL.out.1 j j1 hjL, decide_eq_true (by omega)]; rfl] at HT
              have HT := Lib.hid HT
              go_wp2_with fail
              refine HT.out.mono ?_
              rintro e w8 ⟨rfl, m8, b8⟩
              have M8 := Lib.hid (And.intro m8 (lstep HJ.out.2 b8)); clear m8 b8
              go_wp2_with fail
              go_roundw
              case rel => exact ⟨j + 1, by omega, by omega, by go_num, M8⟩
              case measure => simp [intOf]; omega
            · obtain rfl : L = j := by omega
              have M5 := Lib.hid HJ.out.1; have B5 := Lib.hid HJ.out.2
              obtain ⟨x0, x1⟩ := GB.out _ B5.out
              generalize wr = w5 at *
              have TK := Lib.hid (f_take_none M5.out (by have := HF.out; omega) HL.out.1)
              go_wp2_with fail
              refine TK.out.mono ?_
              rintro e w6 ⟨rfl, m6, b6⟩
              have B6 := Lib.hid (lstep B5.out b6); clear b6
              generalize Fr = Frz at *
              generalize V = Vz at *
              have M6 := Lib.hid m6; clear m6
              go_wp2_with fail
              go_loopw [16, 17] (fun m i wr => ∃ j : Nat, j ≤ L ∧ i = .int .i64 j ∧ m = .int .i64 (tct Frz first L j : Nat) ∧ Hid (Pl (fun k => k < w.heap.size) wr q p L first Frz Vz ∧ Below w.heap.size w wr)) (fun _ i _ => L - (intOf i).toNat)
              case atStart => exact ⟨0, Nat.zero_le _, rfl, rfl, M6.out, B6.out⟩
              case round =>
                obtain ⟨j, hj, rfl, rfl, HJ⟩ := hrel
                have hF2 := HF.out
                have hcn := tct_le Frz first L j
                by_cases hjF : j < L
                · have j1 : decide ((j : Int) < (L : Int)) = true := decide_eq_true (by omega)
                  have HT := Lib.hid (show Calls _ _ _ _ (StepF _ _ _ _ _ _ _ _ (.bool (tkn Frz first L j))) from tkn_int Frz first L j ▸ (CT.out wr Frz Vz (j : Int) HJ.out.1).out)
                  have HCS := Lib.hid (show tct Frz first L (j + 1) = tct Frz first L j + (if tkn Frz first L j then 1 else 0) from tct_succ Frz first L j)
                  generalize tkn Frz first L j = bj at *
                  generalize tct Frz first L j = cj at *
                  have q1 : wrap64 ((cj : Int) + 1) = (cj : Int) + 1 := by unfold wrap64; omega
                  clear hcn hF2
                  cases bj with
                  | true =>
                    go_wp2_with fail
                    refine HT.out.mono ?_
                    rintro e w8 ⟨rfl, m8, b8⟩
                    have M8 := Lib.hid (And.intro m8 (lstep HJ.out.2 b8)); clear m8 b8
                    go_wp2_with fail
                    go_roundw
                    case rel => exact ⟨j + 1, by omega, by go_num, by rw [HCS.out, q1]; simp, M8⟩
                    case measure => simp [intOf]; omega
                  | false =>
                    go_wp2_with fail
                    refine HT.out.mono ?_
                    rintro e w8 ⟨rfl, m8, b8⟩
                    have M8 := Lib.hid (And.intro m8 (lstep HJ.out.2 b8)); clear m8 b8
                    go_wp2_with fail
                    go_roundw
                    case rel => exact ⟨j + 1, by omega, by go_num, by rw [HCS.out]; simp, M8⟩
                    case measure => simp [intOf]; omega
                · obtain rfl : j = L := by omega
                  have hsum := tct_sum Frz first j hF2.2.2
                  have hLf := f_left HJ.out.1
                  generalize tct Frz first j j = cj at *
                  generalize cnt Frz first (j - first) = cl at *
                  have q1 : wrap64 ((cj : Int) + (cl : Int)) = (cj : Int) + (cl : Int) := by unfold wrap64; omega
                  have q2 : wrap64 ((j : Int) - (first : Int)) = (cj : Int) + (cl : Int) := by rw [show (j : Int) - (first : Int) = (cj : Int) + (cl : Int) from by clear q1 hcn; have h9 := hF2.2.2; clear hF2; omega]; exact q1
                  have g1 : ((cj : Int) + (cl : Int) != (j : Int) - (first : Int)) = false := by
                    have h8 : (j : Int) - (first : Int) = (cj : Int) + (cl : Int) := by clear q1 q2 hcn; have h9 := hF2.2.2; clear hF2; omega
                    rw [h8]; simp
                  have HLF := Lib.hid hLf
                  clear hLf hsum hcn hF2
                  go_wp2_with fail
                  refine HLF.out.mono ?_
                  rintro e w9 ⟨rfl, rfl⟩
                  go_wp2_with fail
                  go_roundw
                  case rel => exact ⟨k + 1, by omega, by go_num, ⟨_, _, HJ.out.1, HJ.out.2⟩⟩
                  case measure => simp [intOf]; omega
        by_cases e2 : kd = 2
        · subst e2
          go_wp2_with fail
          go_loopw [13] (fun l wr => ∃ j : Nat, first ≤ j ∧ j ≤ L ∧ l = .int .i64 j ∧ Hid (Pl (fun k => k < w.heap.size) wr q p L first Fr V ∧ Below w.heap.size w wr)) (fun l _ => L - (intOf l).toNat)
          case atStart => exact ⟨first, Nat.le_refl _, l1, rfl, HM.out, HB.out⟩
          case round =>
            obtain ⟨j, j1, j2, rfl, HJ⟩ := hrel
            by_cases hjL : j < L
            · have j3 : decide ((j : Int) < (L : Int)) = true := decide_eq_true (by omega)
              have HT := (CT.out wr Fr V (j : Int) HJ.out.1).out
              rw [tkn_int, show tkn Fr first L j = true from by unfold tkn; rw [HL.out.1 j j1 hjL, decide_eq_true (by omega)]; rfl] at HT
              have HT := Lib.hid HT
              go_wp2_with fail
              refine HT.out.mono ?_
              rintro e w8 ⟨rfl, m8, b8⟩
              have M8 := Lib.hid (And.intro m8 (lstep HJ.out.2 b8)); clear m8 b8
              go_wp2_with fail
              go_roundw
              case rel => exact ⟨j + 1, by omega, by omega, by go_num, M8⟩
              case measure => simp [intOf]; omega
            · obtain rfl : L = j := by omega
              have M5 := Lib.hid HJ.out.1; have B5 := Lib.hid HJ.out.2
              obtain ⟨x0, x1⟩ := GB.out _ B5.out
              generalize wr = w5 at *
              have GV := Lib.hid ((CG.out w5 Fr V M5.out).out)
              go_wp2_with fail
              refine GV.out.mono ?_
              rintro e w6 ⟨Frz, Vz, cz, rfl, m6, b6⟩
              have B6 := Lib.hid (lstep B5.out b6); clear b6
              have M6 := Lib.hid m6; clear m6
              go_wp2_with fail
              go_loopw [16, 17] (fun m i wr => ∃ j : Nat, j ≤ L ∧ i = .int .i64 j ∧ m = .int .i64 (tct Frz first L j : Nat) ∧ Hid (Pl (fun k => k < w.heap.size) wr q p L first Frz Vz ∧ Below w.heap.size w wr)) (fun _ i _ => L - (intOf i).toNat)
              case atStart => exact ⟨0, Nat.zero_le _, rfl, rfl, M6.out, B6.out⟩
              case round =>
                obtain ⟨j, hj, rfl, rfl, HJ⟩ := hrel
                have hF2 := HF.out
                have hcn := tct_le Frz first L j
                by_cases hjF : j < L
                · have j1 : decide ((j : Int) < (L : Int)) = true := decide_eq_true (by omega)
                  have HT := Lib.hid (show Calls _ _ _ _ (StepF _ _ _ _ _ _ _ _ (.bool (tkn Frz first L j))) from tkn_int Frz first L j ▸ (CT.out wr Frz Vz (j : Int) HJ.out.1).out)
                  have HCS := Lib.hid (show tct Frz first L (j + 1) = tct Frz first L j + (if tkn Frz first L j then 1 else 0) from tct_succ Frz first L j)
                  generalize tkn Frz first L j = bj at *
                  generalize tct Frz first L j = cj at *
                  have q1 : wrap64 ((cj : Int) + 1) = (cj : Int) + 1 := by unfold wrap64; omega
                  clear hcn hF2
                  cases bj with
                  | true =>
                    go_wp2_with fail
                    refine HT.out.mono ?_
                    rintro e w8 ⟨rfl, m8, b8⟩
                    have M8 := Lib.hid (And.intro m8 (lstep HJ.out.2 b8)); clear m8 b8
                    go_wp2_with fail
                    go_roundw
                    case rel => exact ⟨j + 1, by omega, by go_num, by rw [HCS.out, q1]; simp, M8⟩
                    case measure => simp [intOf]; omega
                  | false =>
                    go_wp2_with fail
                    refine HT.out.mono ?_
                    rintro e w8 ⟨rfl, m8, b8⟩
                    have M8 := Lib.hid (And.intro m8 (lstep HJ.out.2 b8)); clear m8 b8
                    go_wp2_with fail
                    go_roundw
                    case rel => exact ⟨j + 1, by omega, by go_num, by rw [HCS.out]; simp, M8⟩
                    case measure => simp [intOf]; omega
                · obtain rfl : j = L := by omega
                  have hsum := tct_sum Frz first j hF2.2.2
                  have hLf := f_left HJ.out.1
                  generalize tct Frz first j j = cj at *
                  generalize cnt Frz first (j - first) = cl at *
                  have q1 : wrap64 ((cj : Int) + (cl : Int)) = (cj : Int) + (cl : Int) := by unfold wrap64; omega
                  have q2 : wrap64 ((j : Int) - (first : Int)) = (cj : Int) + (cl : Int) := by rw [show (j : Int) - (first : Int) = (cj : Int) + (cl : Int) from by clear q1 hcn; have h9 := hF2.2.2; clear hF2; omega]; exact q1
                  have g1 : ((cj : Int) + (cl : Int) != (j : Int) - (first : Int)) = false := by
                    have h8 : (j : Int) - (first : Int) = (cj : Int) + (cl : Int) := by clear q1 q2 hcn; have h9 := hF2.2.2; clear hF2; omega
                    rw [h8]; simp
                  have HLF := Lib.hid hLf
                  clear hLf hsum hcn hF2
                  go_wp2_with fail
                  refine HLF.out.mono ?_
                  rintro e w9 ⟨rfl, rfl⟩
                  go_wp2_with fail
                  go_roundw
                  case rel => exact ⟨k + 1, by omega, by go_num, ⟨_, _, HJ.out.1, HJ.out.2⟩⟩
                  case measure => simp [intOf]; omega
        have g1 : (kd == 1) = false := by simpa using e1
        have g2 : (kd == 2) = false := by simpa using e2
        go_wp2_with fail
        go_loopw [13] (fun l wr => ∃ j : Nat, first ≤ j ∧ j ≤ L ∧ l = .int .i64 j ∧ Hid (Pl (fun k => k < w.heap.size) wr q p L first Fr V ∧ Below w.heap.size w wr)) (fun l _ => L - (intOf l).toNat)
        case atStart => exact ⟨first, Nat.le_refl _, l1, rfl, HM.out, HB.out⟩
        case round =>
          obtain ⟨j, j1, j2, rfl, HJ⟩ := hrel
          by_cases hjL : j < L
          · have j3 : decide ((j : Int) < (L : Int)) = true := decide_eq_true (by omega)
            have HT := (CT.out wr Fr V (j : Int) HJ.out.1).out
            rw [tkn_int, show tkn Fr first L j = true from by unfold tkn; rw [HL.out.1 j j1 hjL, decide_eq_true (by omega)]; rfl] at HT
            have HT := Lib.hid HT
            go_wp2_with fail
            refine HT.out.mono ?_
            rintro e w8 ⟨rfl, m8, b8⟩
            have M8 := Lib.hid (And.intro m8 (lstep HJ.out.2 b8)); clear m8 b8
            go_wp2_with fail
            go_roundw
            case rel => exact ⟨j + 1, by omega, by omega, by go_num, M8⟩
            case measure => simp [intOf]; omega
          · obtain rfl : L = j := by omega
            have M5 := Lib.hid HJ.out.1; have B5 := Lib.hid HJ.out.2
            obtain ⟨x0, x1⟩ := GB.out _ B5.out
            generalize wr = w5 at *
            generalize Fr = Frz at *
            generalize V = Vz at *
            go_wp2_with fail
            go_loopw [16, 17] (fun m i wr => ∃ j : Nat, j ≤ L ∧ i = .int .i64 j ∧ m = .int .i64 (tct Frz first L j : Nat) ∧ Hid (Pl (fun k => k < w.heap.size) wr q p L first Frz Vz ∧ Below w.heap.size w wr)) (fun _ i _ => L - (intOf i).toNat)
            case atStart => exact ⟨0, Nat.zero_le _, rfl, rfl, M5.out, B5.out⟩
            case round =>
              obtain ⟨j, hj, rfl, rfl, HJ⟩ := hrel
              have hF2 := HF.out
              have hcn := tct_le Frz first L j
              by_cases hjF : j < L
              · have j1 : decide ((j : Int) < (L : Int)) = true := decide_eq_true (by omega)
                have HT := Lib.hid (show Calls _ _ _ _ (StepF _ _ _ _ _ _ _ _ (.bool (tkn Frz first L j))) from tkn_int Frz first L j ▸ (CT.out wr Frz Vz (j : Int) HJ.out.1).out)
                have HCS := Lib.hid (show tct Frz first L (j + 1) = tct Frz first L j + (if tkn Frz first L j then 1 else 0) from tct_succ Frz first L j)
                generalize tkn Frz first L j = bj at *
                generalize tct Frz first L j = cj at *
                have q1 : wrap64 ((cj : Int) + 1) = (cj : Int) + 1 := by unfold wrap64; omega
                clear hcn hF2
                cases bj with
                | true =>
                  go_wp2_with fail
                  refine HT.out.mono ?_
                  rintro e w8 ⟨rfl, m8, b8⟩
                  have M8 := Lib.hid (And.intro m8 (lstep HJ.out.2 b8)); clear m8 b8
                  go_wp2_with fail
                  go_roundw
                  case rel => exact ⟨j + 1, by omega, by go_num, by rw [HCS.out, q1]; simp, M8⟩
                  case measure => simp [intOf]; omega
                | false =>
                  go_wp2_with fail
                  refine HT.out.mono ?_
                  rintro e w8 ⟨rfl, m8, b8⟩
                  have M8 := Lib.hid (And.intro m8 (lstep HJ.out.2 b8)); clear m8 b8
                  go_wp2_with fail
                  go_roundw
                  case rel => exact ⟨j + 1, by omega, by go_num, by rw [HCS.out]; simp, M8⟩
                  case measure => simp [intOf]; omega
              · obtain rfl : j = L := by omega
                have hsum := tct_sum Frz first j hF2.2.2
                have hLf := f_left HJ.out.1
                generalize tct Frz first j j = cj at *
                generalize cnt Frz first (j - first) = cl at *
                have q1 : wrap64 ((cj : Int) + (cl : Int)) = (cj : Int) + (cl : Int) := by unfold wrap64; omega
                have q2 : wrap64 ((j : Int) - (first : Int)) = (cj : Int) + (cl : Int) := by rw [show (j : Int) - (first : Int) = (cj : Int) + (cl : Int) from by clear q1 hcn; have h9 := hF2.2.2; clear hF2; omega]; exact q1
                have g1 : ((cj : Int) + (cl : Int) != (j : Int) - (first : Int)) = false := by
                  have h8 : (j : Int) - (first : Int) = (cj : Int) + (cl : Int) := by clear q1 q2 hcn; have h9 := hF2.2.2; clear hF2; omega
                  rw [h8]; simp
                have HLF := Lib.hid hLf
                clear hLf hsum hcn hF2
                go_wp2_with fail
                refine HLF.out.mono ?_
                rintro e w9 ⟨rfl, rfl⟩
                go_wp2_with fail
                go_roundw
                case rel => exact ⟨k + 1, by omega, by go_num, ⟨_, _, HJ.out.1, HJ.out.2⟩⟩
                case measure => simp [intOf]; omega
    · have hlt' : decide ((k : Int) < (len0 : Int)) = false := decide_eq_false (by omega)
      have HB := Lib.hid hBw
      clear hM hBw HR
      go_wp2_with fail
      go_ret
      exact ⟨rfl, HB.out⟩
end Go.Proofs.Yteamkchcpmoicaa
