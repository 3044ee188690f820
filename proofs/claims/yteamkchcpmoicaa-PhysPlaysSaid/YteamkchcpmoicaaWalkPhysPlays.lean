/-
  The walk of the statement PhysPlays: true, for every input.
-/
import Derived.Test.YteamkchcpmoicaaDoes
namespace Go.Proofs.Yteamkchcpmoicaa
open Go.RowKit

/-- within the loop -/
def PlaysAt (w : World) (p r F : Nat) (wr : World) : Prop := ∃ V t, Pair (Old w.heap.size) wr p r F V t V t ∧ Below w.heap.size w wr

set_option maxRecDepth 100000 in
set_option maxHeartbeats 1600000 in
theorem physPlays_walk (w : World) (F0 : Int) (_v0 : (Lit.int .i64 F0).wf = true) (a0 : Option Addr) (len0 cap0 : Nat) (V0 : Nat → Nat → Value) (s0 : SRow w a0 len0 6 V0)
    (t0 : ∀ i, i < len0 → ∃ x : Int, V0 i 0 = .int .i64 x ∧ (Lit.int .i64 x).wf = true) (t1 : ∀ i, i < len0 → ∃ x : Int, V0 i 1 = .int .i64 x ∧ (Lit.int .i64 x).wf = true)
    (t2 : ∀ i, i < len0 → ∃ x : Int, V0 i 2 = .int .i64 x ∧ (Lit.int .i64 x).wf = true) (t3 : ∀ i, i < len0 → ∃ x : Int, V0 i 3 = .int .u64 x ∧ (Lit.int .u64 x).wf = true)
    (t4 : ∀ i, i < len0 → ∃ x : Int, V0 i 4 = .int .u64 x ∧ (Lit.int .u64 x).wf = true) (t5 : ∀ i, i < len0 → ∃ x : ByteArray, V0 i 5 = .string x ∧ x.size ≤ maxLen)
    (y0 : len0 * Try.prog.bytesOf 47 ≤ 140737488351232) :
    Calls Try.prog 11 #[.int .i64 F0, .slice a0 len0 cap0] w fun e w' => e = .returned (.bool true) ∧ Below w.heap.size w w' := by
  have hlen : len0 < 9223372036854775807 := by
    have e : Try.prog.bytesOf 47 = 56 := by kernel_rfl
    rw [e] at y0; omega
  have hT := fun W => Lib.hid (ref_takes W F0)
  by_cases hF : F0 < 1 ∨ 256 < F0
  · have hN := fun W => Lib.hid (phys_new_no W F0 hF)
    rw [show decide (1 ≤ F0 ∧ F0 ≤ 256) = false from decide_eq_false (by omega)] at hT
    have HN := Lib.hid hN; have HT := Lib.hid hT
    clear hN hT hF s0 t0 t1 t2 t3 t4 t5 y0 _v0
    go_enter Try.func11, Try.ntmps11
    go_wp2_with fail
    refine (pshown _).mono ?_
    rintro e w1 ⟨rfl, b1⟩
    have B1 := Lib.hid b1; clear b1
    go_wp2_with fail
    refine (HN.out w1).out.mono ?_
    rintro e w2 ⟨rfl, rfl⟩
    go_wp2_with fail
    refine (HT.out w1).out.mono ?_
    rintro e w2 ⟨rfl, rfl⟩
    go_wp2_with fail
    go_ret
    exact ⟨rfl, B1.out⟩
  rw [show decide (1 ≤ F0 ∧ F0 ≤ 256) = true from decide_eq_true (by omega)] at hT
  obtain ⟨F, rfl⟩ := Int.eq_ofNat_of_zero_le (show 0 ≤ F0 by omega)
  have hF2 : 1 ≤ F ∧ F ≤ 256 := by omega
  have q1 : wrap64 ((F : Int) * 256) = (F : Int) * 256 := by unfold wrap64; omega
  have K0 := fun W (H : w.heap.size ≤ W.heap.size) => Lib.hid (s_new w.heap.size W H F (by omega) (by omega))
  rw [show (F : Int).toNat = F from rfl] at K0
  have KR := fun W => Lib.hid (ref_new W F hF2.2)
  have HF := Lib.hid hF2; have C0 := Lib.hid K0; have CR := Lib.hid KR; have HT := Lib.hid hT
  have S0 := Lib.hid s0; have T0 := Lib.hid t0; have T1 := Lib.hid t1; have T2 := Lib.hid t2; have T3 := Lib.hid t3; have T4 := Lib.hid t4; have T5 := Lib.hid t5
  clear hF hF2 K0 KR hT s0 t0 t1 t2 t3 t4 t5 y0 _v0
  go_enter Try.func11, Try.ntmps11
  go_wp2_with fail
  refine (pshown _).mono ?_
  rintro e w1 ⟨rfl, b1⟩
  have B1 := Lib.hid b1; clear b1
  go_wp2_with fail
  refine (C0.out w1 B1.out.size).out.mono ?_
  rintro e w2 ⟨rfl, m2, b2⟩
  have M2 := Lib.hid m2; have B2 := Lib.hid (B1.out.trans b2); clear m2 b2
  go_wp2_with fail
  refine (HT.out w2).out.mono ?_
  rintro e w3 ⟨rfl, rfl⟩
  go_wp2_with fail
  refine (CR.out w2).out.mono ?_
  rintro e w3 ⟨rfl, m3, c3, _⟩
  have M3 := Lib.hid (show PlaysAt w w1.heap.size (w2.heap.size + 1) F w3 from ⟨_, _, Pair.made M2.out (by omega) m3 c3, B2.out.trans (c3.below B2.out.size (fun _ h => h.elim))⟩); clear m3 c3
  generalize w1.heap.size = p at *
  generalize w2.heap.size + 1 = r at *
  go_wp2_with fail
  go_loopw [10] (fun i wr => ∃ k : Nat, k ≤ len0 ∧ i = .int .i64 k ∧ Hid (PlaysAt w p r F wr)) (fun i _ => len0 - (intOf i).toNat)
  case atStart => exact ⟨0, Nat.zero_le _, rfl, M3⟩
  case round =>
    obtain ⟨k, hk, rfl, HR⟩ := hrel
    obtain ⟨V, t, hM, hBw⟩ := HR.out
    by_cases hlt : k < len0
    · obtain ⟨ab, off, rfl, hab, hcell⟩ : ∃ ab off, a0 = some ⟨ab, off, none⟩ ∧ ab < w.heap.size ∧ ∀ i, i < len0 → ∀ j, j < 6 → w.cell? ⟨ab, off + (i * 6 + j), none⟩ = some (V0 i j) := by
        rcases S0.out with h | h
        · omega
        · exact h
      obtain ⟨kd, hkd, _⟩ := T0.out k hlt
      obtain ⟨sz, hsz, _⟩ := T1.out k hlt
      obtain ⟨nn, hnn, hnw⟩ := T2.out k hlt
      obtain ⟨ak, hak, haw⟩ := T3.out k hlt
      obtain ⟨a, rfl, ha⟩ := u64_nat' haw
      obtain ⟨vk, hvk, hvw⟩ := T4.out k hlt
      obtain ⟨v, rfl, hv⟩ := u64_nat' hvw
      obtain ⟨sv, hsv, hss⟩ := T5.out k hlt
      have hn9 : nn ≤ 9223372036854775807 := by simp [Lit.wf, IntKind.min, IntKind.max, IntKind.signed, IntKind.bits] at hnw; omega
      have cc : ∀ j, j < 6 → wr.cell? ⟨ab, off + (k * 6 + j), none⟩ = some (V0 k j) := fun j hj => (hBw.cell hab).trans (hcell k hlt j hj)
      have c0 : wr.cell? ⟨ab, off + k * 6, none⟩ = some (.int .i64 kd) := by rw [← hkd]; exact cc 0 (by omega)
      have c1 : wr.cell? ⟨ab, off + k * 6 + 1, none⟩ = some (.int .i64 sz) := by rw [← hsz]; exact cc 1 (by omega)
      have c2 : wr.cell? ⟨ab, off + k * 6 + 2, none⟩ = some (.int .i64 nn) := by rw [← hnn]; exact cc 2 (by omega)
      have c3 : wr.cell? ⟨ab, off + k * 6 + 3, none⟩ = some (.int .u64 a) := by rw [← hak]; exact cc 3 (by omega)
      have c4 : wr.cell? ⟨ab, off + k * 6 + 4, none⟩ = some (.int .u64 v) := by rw [← hvk]; exact cc 4 (by omega)
      have c5 : wr.cell? ⟨ab, off + k * 6 + 5, none⟩ = some (.string sv) := by rw [← hsv]; exact cc 5 (by omega)
      have k0 : (0 : Int) ≤ (k : Int) := by omega
      have k1 : (k : Int) < (len0 : Int) := by omega
      have KD := Lib.hid (does_all (Old w.heap.size) wr p r F t V hM HF.out.2 sz nn hn9 a v ha hv sv hss kd)
      have HB := Lib.hid hBw
      clear hcell hkd hsz hnn hak hvk hsv haw hvw hnw hM hBw cc ha hv hss hn9
      go_wp2_with fail
      refine KD.out.mono ?_
      rintro e w4 ⟨rfl, V2, t2, m4, b4⟩
      have M4 := Lib.hid m4; have B4 := Lib.hid (HB.out.trans (b4.old HB.out.size)); clear b4
      obtain ⟨g, f0, f1, _⟩ := m4.fields
      clear m4
      go_wp2_with fail
      refine (pl_touched M4.out).mono ?_
      rintro e w5 ⟨rfl, rfl⟩
      go_wp2_with fail
      go_roundw
      case rel => exact ⟨k + 1, by omega, by go_num, ⟨_, _, M4.out, B4.out⟩⟩
      case measure => simp [intOf]; omega
    · have hlt' : decide ((k : Int) < (len0 : Int)) = false := decide_eq_false (by omega)
      have hlt3 : ¬ k < len0 := hlt
      have hF2 := HF.out
      have e : cdG F 0 ((F : Int) * 256) = 0 := by unfold cdG; rw [if_neg (by omega), if_pos (by omega)]
      have e2 : gtS F V 0 ((F : Int) * 256) = memStr V 0 (F * 256) := by unfold gtS; rw [if_pos e, show ((F : Int) * 256).toNat = F * 256 from by omega]
      have KG := pl_get hM hF2.2 0 (by omega) ((F : Int) * 256) (by omega)
      rw [e, e2] at KG
      have KF := fun W (H : Pair (Old w.heap.size) W p r F V t V t) => H.fields
      generalize memStr V 0 (F * 256) = s at *
      have HG := Lib.hid KG; have HFD := Lib.hid KF; have HB := Lib.hid hBw
      clear hM hBw HR hlt KG KF hF2 e e2
      go_wp2_with fail
      refine HG.out.mono ?_
      rintro e w4 ⟨rfl, m4, b4⟩
      have M4 := Lib.hid m4; have B4 := Lib.hid (HB.out.trans (b4.old HB.out.size)); clear m4 b4
      go_wp2_with fail
      refine (pl_frames M4.out).mono ?_
      rintro e w5 ⟨rfl, rfl⟩
      obtain ⟨g, f0, f1, f2⟩ := HFD.out _ M4.out
      go_wp2_with fail
      go_ret
      exact ⟨ret_bool (by simp), B4.out⟩
end Go.Proofs.Yteamkchcpmoicaa
