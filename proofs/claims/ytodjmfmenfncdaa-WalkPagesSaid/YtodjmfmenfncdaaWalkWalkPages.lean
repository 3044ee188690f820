/-
  The walk of the statement WalkPages: true, for every input.
-/
import Derived.Test.YtodjmfmenfncdaaTbAll
import Derived.Test.YtodjmfmenfncdaaTbShown
namespace Go.Proofs.Ytodjmfmenfncdaa
open Go.RowKit

set_option maxRecDepth 100000 in
set_option maxHeartbeats 1600000 in
theorem walkPages_walk (w : World) (a0 : Option Addr) (len0 cap0 : Nat) (V0 : Nat → Nat → Value) (s0 : SRow w a0 len0 2 V0)
    (t0 : ∀ i, i < len0 → ∃ x : Int, V0 i 0 = .int .u64 x ∧ (Lit.int .u64 x).wf = true) (t1 : ∀ i, i < len0 → ∃ x : Int, V0 i 1 = .int .u64 x ∧ (Lit.int .u64 x).wf = true)
    (y0 : len0 ≤ 9223372036854775807) (root : Int) (_w1 : (Lit.int .i64 root).wf = true) (aA : Int) (w2 : (Lit.int .u64 aA).wf = true) (acc : Int) (_w3 : (Lit.int .i64 acc).wf = true) (bA : Int) (w4 : (Lit.int .u64 bA).wf = true) :
    Calls Try.prog 3 #[.agg #[.slice a0 len0 cap0, .int .i64 root, .int .u64 aA, .int .i64 acc, .int .u64 bA]] w fun e w' => e = .returned (.bool true) ∧ Below w.heap.size w w' := by
  obtain ⟨a, rfl, ha⟩ := u64_nat' w2
  obtain ⟨b, rfl, hb⟩ := u64_nat' w4
  obtain ⟨c, hc⟩ : ∃ c, c = a / 256 * 256 + b % 256 := ⟨_, rfl⟩
  have hcp : a / 256 = c / 256 := by omega
  have q1 : IntKind.u64.wrap ((a : Int) / 256 * 256 + (b : Int) % 256) = (c : Int) := by rw [u64_wrap]; omega
  have q2 : IntKind.u64.wrap ((a : Int) / 256 * 256) = (a : Int) / 256 * 256 := by rw [u64_wrap]; omega
  have q3 : IntKind.u64.wrap ((a : Int) / 256) = (a : Int) / 256 := by rw [u64_wrap]; omega
  have q4 : IntKind.u64.wrap ((b : Int) % 256) = (b : Int) % 256 := by rw [u64_wrap]; omega
  have S0 := Lib.hid s0; have T0 := Lib.hid t0; have T1 := Lib.hid t1
  have HN := Lib.hid (And.intro ha (And.intro hb (And.intro hc hcp)))
  clear s0 t0 t1 w2 w4 ha hb hc hcp
  go_enter Try.func3, Try.ntmps3
  go_wp2_with fail
  refine (tshown _).mono ?_
  rintro e w1 ⟨rfl, b1⟩
  have b1' := ((Below.refl w.heap.size w).alloc (Nat.le_refl _) _).trans (b1.mono (by simp))
  have s1 := S0.out.chg (Nat.le_refl _) b1'
  have HL := Lib.hid (law_memory w1 a0 len0 cap0 V0 s1 T0.out T1.out y0)
  have B1 := Lib.hid b1'; clear b1 b1' s1
  generalize memF V0 len0 = V at *
  go_wp2_with fail
  refine HL.out.mono ?_
  rintro e w2 ⟨p, r, rfl, m2, b2⟩
  have M2 := Lib.hid m2; have B2 := Lib.hid (B1.out.trans (b2.mono B1.out.size)); have BB := Lib.hid b2; clear m2 b2
  have K1 := wk_all _ w2 p r 8 V V M2.out (by omega) root a acc
  have K2 := fun W (H : PX (fun k => k < w1.heap.size) W p r 8 V V) => Lib.hid (wk_all _ W p r 8 V V H (by omega) root c acc)
  have OLD := Lib.hid (fun (W W' : World) (h : Below w1.heap.size w1 W) (cc : Chg (fun k => ¬ k < w1.heap.size) W W') => h.trans (cc.below (B := w1.heap.size) h.size (fun _ h => Nat.le_of_not_lt h)))
  rcases wk_split V 8 root a c acc HN.out.2.2.2 with ⟨cd, hcd, hw1, hw2⟩ | ⟨f, hf, hw1, hw2⟩
  · rw [hw1] at K1
    rw [hw2] at K2
    simp only [errV] at K1 K2
    have C1 := Lib.hid K1; have C2 := Lib.hid K2
    clear K1 K2 hw1 hw2
    rcases hcd with rfl | rfl
    all_goals
      go_wp2_with fail
      refine C1.out.mono ?_
      rintro e w3 ⟨rfl, m3, c3⟩
      have M3 := Lib.hid m3; have B3 := Lib.hid (OLD.out _ _ BB.out c3); clear m3 c3
      go_wp2_with fail
      refine (C2.out w3 M3.out).out.mono ?_
      rintro e w4 ⟨rfl, m3, c3⟩
      have B4 := Lib.hid (OLD.out _ _ B3.out c3); clear m3 c3
      go_wp2_with fail
      go_ret
      exact ⟨rfl, B1.out.trans (B4.out.mono B1.out.size)⟩
  · rw [hw1] at K1
    rw [hw2] at K2
    obtain ⟨x, hx⟩ : ∃ x, x = f * 256 + a % 256 := ⟨_, rfl⟩
    obtain ⟨y, hy⟩ : ∃ y, y = f * 256 + c % 256 := ⟨_, rfl⟩
    rw [← hx] at K1
    rw [← hy] at K2
    have g1 : (x : Int) / 256 = (f : Int) := by omega
    have g2 : (y : Int) / 256 = (f : Int) := by omega
    have g3 : (x : Int) % 256 = (a : Int) % 256 := by omega
    have g4 : (y : Int) % 256 = (c : Int) % 256 := by omega
    have g5 : decide ((x : Int) < 2048) = true := decide_eq_true (by omega)
    have g6 : x < 2048 := by omega
    have g7 : IntKind.u64.wrap (f : Int) = (f : Int) := by rw [u64_wrap]; omega
    have g8 : IntKind.u64.wrap ((a : Int) % 256) = (a : Int) % 256 := by rw [u64_wrap]; omega
    have g9 : IntKind.u64.wrap ((c : Int) % 256) = (c : Int) % 256 := by rw [u64_wrap]; omega
    have C1 := Lib.hid K1; have C2 := Lib.hid K2
    clear K1 K2 hw1 hw2 hx hy
    go_wp2_with fail
    refine C1.out.mono ?_
    rintro e w3 ⟨rfl, m3, c3⟩
    have M3 := Lib.hid m3; have B3 := Lib.hid (OLD.out _ _ BB.out c3); clear m3 c3
    go_wp2_with fail
    refine (C2.out w3 M3.out).out.mono ?_
    rintro e w4 ⟨rfl, m3, c3⟩
    have B4 := Lib.hid (OLD.out _ _ B3.out c3); clear m3 c3
    go_wp2_with fail
    go_ret
    exact ⟨ret_bool (by simp), B1.out.trans (B4.out.mono B1.out.size)⟩
end Go.Proofs.Ytodjmfmenfncdaa
