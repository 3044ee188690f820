/-
  The document's memory: Copy by its contract (below 0: Clear).
-/
import Derived.Test.YteamkchcpmoicaaRefMem2
namespace Go.Proofs.Yteamkchcpmoicaa
open Go.RowKit

set_option maxRecDepth 100000 in
set_option maxHeartbeats 1600000 in
theorem rm_copy_no (w : World) (r g F t : Nat) (hF : F ≤ 256) (V : Nat → Nat) (h : RM w r g F V t) (a b : Int) (hab : a < 0 ∨ (F : Int) ≤ a ∨ (F : Int) ≤ b) :
    Calls Try.prog 47 #[.pointer (some ⟨r, 0, none⟩), .int .i64 a, .int .i64 b] w fun e w' => e = .returned (.int .i64 3) ∧ w = w' := by
  have c0 : w.cell? ⟨r, 0, none⟩ = some (.slice (some ⟨g, 0, none⟩) (F * 256) (F * 256)) := h.blk.cellv 0 _ rfl
  have q0 : ((F : Int) * 256).tdiv 256 = (F : Int) := Int.mul_tdiv_cancel _ (by decide)
  have q1 : wrap64 (F : Int) = (F : Int) := by unfold wrap64; omega
  clear h
  by_cases h1 : a < 0
  · have d1 : decide (a < (0 : Int)) = true := decide_eq_true h1
    go_enter Try.func47, Try.ntmps47
    go_wp2_with fail
    go_ret
    exact ⟨rfl, rfl⟩
  · have d1 : decide (a < (0 : Int)) = false := decide_eq_false h1
    by_cases h2 : (F : Int) ≤ a
    · have d2 : decide ((F : Int) ≤ a) = true := decide_eq_true h2
      clear h1
      go_enter Try.func47, Try.ntmps47
      go_wp2_with fail
      go_ret
      exact ⟨rfl, rfl⟩
    · have d2 : decide ((F : Int) ≤ a) = false := decide_eq_false h2
      have h3 : (F : Int) ≤ b := by omega
      have d3 : decide ((F : Int) ≤ b) = true := decide_eq_true h3
      clear h1 h2 hab
      go_enter Try.func47, Try.ntmps47
      go_wp2_with fail
      go_ret
      exact ⟨rfl, rfl⟩

/-- one frame's bytes, whatever they come from -/
theorem RM.cellg {w : World} {r g F t : Nat} {V : Nat → Nat} (h : RM w r g F V t) (i : Nat) (hi : i < F * 256) : w.cell? ⟨g, i, none⟩ = some (.int .u8 (V i : Nat)) := by
  obtain ⟨cs, hb, _, hv⟩ := h.row; exact hb.cellv _ _ (hv _ hi)
theorem RM.freeg {w : World} {r g F t : Nat} {V : Nat → Nat} (h : RM w r g F V t) (i : Nat) : w.frozen? ⟨g, i, none⟩ = false := by
  obtain ⟨cs, hb, _, _⟩ := h.row; exact hb.free _

set_option maxRecDepth 100000 in
set_option maxHeartbeats 1600000 in
theorem rm_copy_yes (w : World) (r g F t : Nat) (hF : F ≤ 256) (V : Nat → Nat) (h : RM w r g F V t) (a b : Nat) (ha : a < F) (hb : b < F) :
    Calls Try.prog 47 #[.pointer (some ⟨r, 0, none⟩), .int .i64 a, .int .i64 b] w (RmK w r g F t (putV V (a * 256) 256 (fun i => V (b * 256 + i))) (.int .i64 0)) := by
  have c0 : w.cell? ⟨r, 0, none⟩ = some (.slice (some ⟨g, 0, none⟩) (F * 256) (F * 256)) := h.blk.cellv 0 _ rfl
  have q0 : ((F : Int) * 256).tdiv 256 = (F : Int) := Int.mul_tdiv_cancel _ (by decide)
  have q1 : wrap64 (F : Int) = (F : Int) := by unfold wrap64; omega
  have d1 : decide ((a : Int) < 0) = false := decide_eq_false (by omega)
  have d2 : decide ((F : Int) ≤ (a : Int)) = false := decide_eq_false (by omega)
  have d3 : decide ((F : Int) ≤ (b : Int)) = false := decide_eq_false (by omega)
  have d4 : ¬ F ≤ a := by omega
  have d5 : ¬ F ≤ b := by omega
  have q4 : wrap64 ((a : Int) * 256) = (a : Int) * 256 := by unfold wrap64; omega
  have q5 : wrap64 ((b : Int) * 256) = (b : Int) * 256 := by unfold wrap64; omega
  have HV := Lib.hid h.small
  have HR := Lib.hid (show RM w r g F (putV V (a * 256) 0 (fun i => V (b * 256 + i))) t by rw [putV_none]; exact h)
  have HF := Lib.hid (And.intro hF (And.intro ha hb))
  clear h hF ha hb
  go_enter Try.func47, Try.ntmps47
  go_wp2_with fail
  clear c0
  go_loopw [8] (fun i wr => ∃ k : Nat, k ≤ 256 ∧ i = .int .i64 k ∧ Hid (RM wr r g F (putV V (a * 256) k (fun i => V (b * 256 + i))) t ∧ Chg (fun i => i = r ∨ i = g) w wr)) (fun i _ => 256 - (intOf i).toNat)
  case atStart => exact ⟨0, Nat.zero_le _, rfl, HR.out, Chg.refl _ _⟩
  case round =>
    obtain ⟨k, hk, rfl, HB⟩ := hrel
    obtain ⟨hM, hC⟩ := HB.out
    have hff := HF.out
    by_cases hlt : k < 256
    · have c0 : wr.cell? ⟨r, 0, none⟩ = some (.slice (some ⟨g, 0, none⟩) (F * 256) (F * 256)) := hM.blk.cellv 0 _ rfl
      have fg := hM.freeg (a * 256 + k)
      have q6 : wrap64 ((a : Int) * 256 + (k : Int)) = (a : Int) * 256 + (k : Int) := by unfold wrap64; omega
      have q7 : wrap64 ((b : Int) * 256 + (k : Int)) = (b : Int) * 256 + (k : Int) := by unfold wrap64; omega
      have d6 : (0 : Int) ≤ (a : Int) * 256 + (k : Int) := by omega
      have d7 : (a : Int) * 256 + (k : Int) < (F : Int) * 256 := by omega
      have d8 : ((a : Int) * 256 + (k : Int)).toNat = a * 256 + k := by omega
      have d9 : (0 : Int) ≤ (b : Int) * 256 + (k : Int) := by omega
      have e7 : (b : Int) * 256 + (k : Int) < (F : Int) * 256 := by omega
      have e8 : ((b : Int) * 256 + (k : Int)).toNat = b * 256 + k := by omega
      have e9 : a * 256 + k < F * 256 := by omega
      have e10 : b * 256 + k < F * 256 := by omega
      have e1 : putV V (a * 256) k (fun i => V (b * 256 + i)) (b * 256 + k) = V (b * 256 + k) := by
        unfold putV
        rw [if_neg (by omega)]
      have cb := hM.cellg (b * 256 + k) e10
      rw [e1] at cb
      clear e1
      have ca := hM.cellg (a * 256 + k) e9
      generalize putV V (a * 256) k (fun i => V (b * 256 + i)) (a * 256 + k) = yo at ca
      have hP := hM.put1 (f := fun i => V (b * 256 + i)) (x := ((V (b * 256 + k) : Nat) : Int)) e9 (fun _ => HV.out _) HV.out rfl
      generalize V (b * 256 + k) = x at *
      have HP := Lib.hid hP
      have HC := Lib.hid hC
      clear hM hC hff HB hP
      go_wp2_with fail
      go_roundw
      case rel => exact ⟨k + 1, by omega, by go_num, HP.out.1, HC.out.trans HP.out.2⟩
      case measure => simp [intOf]; omega
    · obtain rfl : k = 256 := by omega
      have HE := Lib.hid (And.intro hM hC)
      clear hM hC hff HB
      go_wp2_with fail
      go_ret
      exact ⟨rfl, HE.out⟩

set_option maxRecDepth 100000 in
set_option maxHeartbeats 1600000 in
theorem rm_copy_clear (w : World) (r g F t : Nat) (hF : F ≤ 256) (V : Nat → Nat) (h : RM w r g F V t) (a : Nat) (ha : a < F) :
    Calls Try.prog 47 #[.pointer (some ⟨r, 0, none⟩), .int .i64 a, .int .i64 (-1)] w (RmK w r g F t (putV V (a * 256) 256 (fun _ => 0)) (.int .i64 0)) := by
  have c0 : w.cell? ⟨r, 0, none⟩ = some (.slice (some ⟨g, 0, none⟩) (F * 256) (F * 256)) := h.blk.cellv 0 _ rfl
  have q0 : ((F : Int) * 256).tdiv 256 = (F : Int) := Int.mul_tdiv_cancel _ (by decide)
  have q1 : wrap64 (F : Int) = (F : Int) := by unfold wrap64; omega
  have d1 : decide ((a : Int) < 0) = false := decide_eq_false (by omega)
  have d2 : decide ((F : Int) ≤ (a : Int)) = false := decide_eq_false (by omega)
  have d3 : decide ((F : Int) ≤ (-1 : Int)) = false := decide_eq_false (by omega)
  have d4 : ¬ F ≤ a := by omega
  have q4 : wrap64 ((a : Int) * 256) = (a : Int) * 256 := by unfold wrap64; omega
  have HV := Lib.hid h.small
  have HR := Lib.hid (show RM w r g F (putV V (a * 256) 0 (fun _ => 0)) t by rw [putV_none]; exact h)
  have HF := Lib.hid (And.intro hF ha)
  clear h hF ha
  go_enter Try.func47, Try.ntmps47
  go_wp2_with fail
  clear c0
  go_loopw [8] (fun i wr => ∃ k : Nat, k ≤ 256 ∧ i = .int .i64 k ∧ Hid (RM wr r g F (putV V (a * 256) k (fun _ => 0)) t ∧ Chg (fun i => i = r ∨ i = g) w wr)) (fun i _ => 256 - (intOf i).toNat)
  case atStart => exact ⟨0, Nat.zero_le _, rfl, HR.out, Chg.refl _ _⟩
  case round =>
    obtain ⟨k, hk, rfl, HB⟩ := hrel
    obtain ⟨hM, hC⟩ := HB.out
    have hff := HF.out
    by_cases hlt : k < 256
    · have c0 : wr.cell? ⟨r, 0, none⟩ = some (.slice (some ⟨g, 0, none⟩) (F * 256) (F * 256)) := hM.blk.cellv 0 _ rfl
      have fg := hM.freeg (a * 256 + k)
      have q6 : wrap64 ((a : Int) * 256 + (k : Int)) = (a : Int) * 256 + (k : Int) := by unfold wrap64; omega
      have d6 : (0 : Int) ≤ (a : Int) * 256 + (k : Int) := by omega
      have d7 : (a : Int) * 256 + (k : Int) < (F : Int) * 256 := by omega
      have d8 : ((a : Int) * 256 + (k : Int)).toNat = a * 256 + k := by omega
      have e9 : a * 256 + k < F * 256 := by omega
      have ca := hM.cellg (a * 256 + k) e9
      generalize putV V (a * 256) k (fun _ => 0) (a * 256 + k) = yo at ca
      have hP := hM.put1 (f := fun _ => 0) (x := 0) e9 (fun _ => by omega) HV.out rfl
      have HP := Lib.hid hP
      have HC := Lib.hid hC
      clear hM hC hff HB hP
      go_wp2_with fail
      go_roundw
      case rel => exact ⟨k + 1, by omega, by go_num, HP.out.1, HC.out.trans HP.out.2⟩
      case measure => simp [intOf]; omega
    · obtain rfl : k = 256 := by omega
      have HE := Lib.hid (And.intro hM hC)
      clear hM hC hff HB
      go_wp2_with fail
      go_ret
      exact ⟨rfl, HE.out⟩

theorem rm_copy (w : World) (r g F t : Nat) (hF : F ≤ 256) (V : Nat → Nat) (h : RM w r g F V t) (a b : Int) (hb : 0 ≤ b) :
    Calls Try.prog 47 #[.pointer (some ⟨r, 0, none⟩), .int .i64 a, .int .i64 b] w (RmK w r g F t (cpV F V a b) (.int .i64 (cdC F a b))) := by
  by_cases hf : 0 ≤ a ∧ a < F ∧ 0 ≤ b ∧ b < F
  · have e : cdC F a b = 0 := by unfold cdC; rw [if_pos hf]
    obtain ⟨m, rfl⟩ := Int.eq_ofNat_of_zero_le hf.1
    obtain ⟨k, rfl⟩ := Int.eq_ofNat_of_zero_le hf.2.2.1
    simp only [cpV, e, if_true, Int.toNat_natCast]
    exact rm_copy_yes w r g F t hF V h m k (by omega) (by omega)
  · have e : cdC F a b = 3 := by unfold cdC; rw [if_neg hf]
    simp only [cpV, e]
    exact (rm_copy_no w r g F t hF V h a b (by omega)).mono fun _ _ ⟨h1, h2⟩ => by subst h1 h2; exact ⟨rfl, h, Chg.refl _ _⟩
theorem rm_clear (w : World) (r g F t : Nat) (hF : F ≤ 256) (V : Nat → Nat) (h : RM w r g F V t) (a : Int) :
    Calls Try.prog 47 #[.pointer (some ⟨r, 0, none⟩), .int .i64 a, .int .i64 (-1)] w (RmK w r g F t (clV F V a) (.int .i64 (cdF F a))) := by
  by_cases hf : 0 ≤ a ∧ a < F
  · have e : cdF F a = 0 := by unfold cdF; rw [if_pos hf]
    obtain ⟨m, rfl⟩ := Int.eq_ofNat_of_zero_le hf.1
    simp only [clV, e, if_true, Int.toNat_natCast]
    exact rm_copy_clear w r g F t hF V h m (by omega)
  · have e : cdF F a = 3 := by unfold cdF; rw [if_neg hf]
    simp only [clV, e]
    exact (rm_copy_no w r g F t hF V h a (-1) (by omega)).mono fun _ _ ⟨h1, h2⟩ => by subst h1 h2; exact ⟨rfl, h, Chg.refl _ _⟩
end Go.Proofs.Yteamkchcpmoicaa
