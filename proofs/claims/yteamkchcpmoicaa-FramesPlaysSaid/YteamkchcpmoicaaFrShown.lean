/-
  The document's example of layer 10: true.
-/
import Derived.Test.YteamkchcpmoicaaPool3
namespace Go.Proofs.Yteamkchcpmoicaa
open Go.RowKit

theorem StepS.toT {B : Nat} {w : World} {p F t : Nat} {V : Nat → Nat} (ht : t < 18446744073709551616) (h : MS B w p F V t) : MT B w p F V := ⟨t, ht, h⟩
def fr1 : Nat → Bool := setF (frAll 1 4) 1 false
def fr2 : Nat → Bool := setF fr1 2 false
def fr3 : Nat → Bool := setF fr2 3 false
def fr4 : Nat → Bool := setF fr3 2 true
theorem small3 {P : Nat → Prop} (h1 : P 1) (h2 : P 2) (h3 : P 3) : ∀ g, 1 ≤ g → g < 4 → P g := fun g a b => by
  rcases (show g = 1 ∨ g = 2 ∨ g = 3 by omega) with rfl | rfl | rfl <;> assumption
theorem small1 {P : Nat → Prop} (h1 : P 1) : ∀ g, 1 ≤ g → g < 2 → P g := fun g a b => by
  rcases (show g = 1 by omega) with rfl
  assumption

set_option maxRecDepth 100000 in
set_option maxHeartbeats 800000 in
theorem fshown (w : World) :
    Calls Try.prog 14 #[] w fun e w' => e = .returned (.bool true) ∧ Below w.heap.size w w' := by
  have K0 := Lib.hid (s_new w.heap.size w (Nat.le_refl _) 4 (by omega) (by omega))
  have K1 := fun W (H : MT w.heap.size W w.heap.size 4 (fun _ => 0)) => Lib.hid (f_new H (by omega) 1 (by omega))
  have K2 := fun W q V (H : Pl (fun k => k < w.heap.size) W q w.heap.size 4 1 (frAll 1 4) V) => Lib.hid (f_left H)
  have T1 := fun W q V (H : Pl (fun k => k < w.heap.size) W q w.heap.size 4 1 (frAll 1 4) V) => Lib.hid (f_take_some H (by omega) 1 (by omega) (by omega) (by decide) (fun g a b => by omega))
  have T2 := fun W q V (H : Pl (fun k => k < w.heap.size) W q w.heap.size 4 1 fr1 V) => Lib.hid (f_take_some H (by omega) 2 (by omega) (by omega) (by decide) (small1 (P := fun g => fr1 g = false) rfl))
  have T3 := fun W q V (H : Pl (fun k => k < w.heap.size) W q w.heap.size 4 1 fr2 V) => Lib.hid (f_take_some H (by omega) 3 (by omega) (by omega) (by decide) (fun g a b => small3 (P := fun g => g < 3 → fr2 g = false) (fun _ => rfl) (fun _ => rfl) (fun h => by omega) g a (by omega) b))
  have T4 := fun W q V (H : Pl (fun k => k < w.heap.size) W q w.heap.size 4 1 fr3 V) => Lib.hid (f_take_none H (by omega) (small3 (P := fun g => fr3 g = false) rfl rfl rfl))
  have G1 := fun W q V (H : Pl (fun k => k < w.heap.size) W q w.heap.size 4 1 fr3 V) => Lib.hid (f_give_yes H (by omega) 2 (by omega) (by omega) rfl)
  have G2 := fun W q V (H : Pl (fun k => k < w.heap.size) W q w.heap.size 4 1 fr4 V) => Lib.hid (f_give_no H (by omega) 2 (fun h => by have := h.2.2; revert this; decide))
  have G3 := fun W q V (H : Pl (fun k => k < w.heap.size) W q w.heap.size 4 1 fr4 V) => Lib.hid (f_give_no H (by omega) 0 (fun h => by have := h.1; omega))
  have T5 := fun W q V (H : Pl (fun k => k < w.heap.size) W q w.heap.size 4 1 fr4 V) => Lib.hid (f_take_some H (by omega) 2 (by omega) (by omega) (by decide) (small1 (P := fun g => fr4 g = false) rfl))
  rw [show (4 : Int).toNat = 4 from rfl] at K0
  rw [show ((1 : Nat) : Int) = 1 from rfl] at K1 T1
  rw [show ((2 : Nat) : Int) = 2 from rfl] at T2 G1 T5
  rw [show ((3 : Nat) : Int) = 3 from rfl] at T3
  rw [show cnt (frAll 1 4) 1 (4 - 1) = 3 from by decide, show ((3 : Nat) : Int) = 3 from rfl] at K2
  have C1 := Lib.hid K1; have C2 := Lib.hid K2; have D1 := Lib.hid T1; have D2 := Lib.hid T2; have D3 := Lib.hid T3; have D4 := Lib.hid T4; have D5 := Lib.hid T5; have E1 := Lib.hid G1; have E2 := Lib.hid G2; have E3 := Lib.hid G3
  clear K1 K2 T1 T2 T3 T4 T5 G1 G2 G3
  generalize hB : w.heap.size = B at *
  have HB := Lib.hid hB; clear hB
  go_enter Try.func14, Try.ntmps14
  go_wp2_with fail
  refine K0.out.mono ?_
  rintro e w1 ⟨rfl, m1, b1⟩
  have M1 := Lib.hid (StepS.toT (by omega) m1); have B1 := Lib.hid b1; clear m1 b1
  go_wp2_with fail
  refine (C1.out w1 M1.out).out.mono ?_
  rintro e w2 ⟨q, rfl, m1, b1⟩
  have M2 := Lib.hid m1; have B2 := Lib.hid (B1.out.trans b1); have hlt := Nat.le_trans (Nat.le_of_eq HB.out.symm) B2.out.size
  clear m1 b1
  have OLD := Lib.hid (fun (W W' : World) (h : Chg (fun k => ¬ k < B) W W') (hs : B ≤ W.heap.size) => h.below hs (fun _ h => Nat.le_of_not_lt h))
  have HLT := Lib.hid hlt; clear hlt
  go_wp2_with fail
  refine (C2.out w2 q _ M2.out).out.mono ?_
  rintro e w' ⟨rfl, rfl⟩
  go_wp2_with fail
  refine (D1.out w2 q _ M2.out).out.mono ?_
  rintro e w3 ⟨rfl, m1, b1⟩
  have M3 := Lib.hid m1; have B3 := Lib.hid (B2.out.trans (OLD.out _ _ b1 (Nat.le_trans (Nat.le_of_eq HB.out.symm) B2.out.size))); clear m1 b1
  go_wp2_with fail
  refine (D2.out w3 q _ M3.out).out.mono ?_
  rintro e w4 ⟨rfl, m1, b1⟩
  have M4 := Lib.hid m1; have B4 := Lib.hid (B3.out.trans (OLD.out _ _ b1 (Nat.le_trans (Nat.le_of_eq HB.out.symm) B3.out.size))); clear m1 b1
  go_wp2_with fail
  refine (D3.out w4 q _ M4.out).out.mono ?_
  rintro e w5 ⟨rfl, m1, b1⟩
  have M5 := Lib.hid m1; have B5 := Lib.hid (B4.out.trans (OLD.out _ _ b1 (Nat.le_trans (Nat.le_of_eq HB.out.symm) B4.out.size))); clear m1 b1
  go_wp2_with fail
  refine (D4.out w5 q _ M5.out).out.mono ?_
  rintro e w6 ⟨rfl, m1, b1⟩
  have M6 := Lib.hid m1; have B6 := Lib.hid (B5.out.trans (OLD.out _ _ b1 (Nat.le_trans (Nat.le_of_eq HB.out.symm) B5.out.size))); clear m1 b1
  go_wp2_with fail
  refine (E1.out w6 q _ M6.out).out.mono ?_
  rintro e w7 ⟨rfl, m1, b1⟩
  have M7 := Lib.hid m1; have B7 := Lib.hid (B6.out.trans (OLD.out _ _ b1 (Nat.le_trans (Nat.le_of_eq HB.out.symm) B6.out.size))); clear m1 b1
  go_wp2_with fail
  refine (E2.out w7 q _ M7.out).out.mono ?_
  rintro e w8 ⟨rfl, m1, b1⟩
  have M8 := Lib.hid m1; have B8 := Lib.hid (B7.out.trans (OLD.out _ _ b1 (Nat.le_trans (Nat.le_of_eq HB.out.symm) B7.out.size))); clear m1 b1
  go_wp2_with fail
  refine (E3.out w8 q _ M8.out).out.mono ?_
  rintro e w9 ⟨rfl, m1, b1⟩
  have M9 := Lib.hid m1; have B9 := Lib.hid (B8.out.trans (OLD.out _ _ b1 (Nat.le_trans (Nat.le_of_eq HB.out.symm) B8.out.size))); clear m1 b1
  go_wp2_with fail
  refine (D5.out w9 q _ M9.out).out.mono ?_
  rintro e w10 ⟨rfl, m1, b1⟩
  have M10 := Lib.hid m1; have B10 := Lib.hid (B9.out.trans (OLD.out _ _ b1 (Nat.le_trans (Nat.le_of_eq HB.out.symm) B9.out.size))); clear m1 b1
  go_wp2_with fail
  go_ret
  exact ⟨rfl, B10.out⟩
end Go.Proofs.Yteamkchcpmoicaa
