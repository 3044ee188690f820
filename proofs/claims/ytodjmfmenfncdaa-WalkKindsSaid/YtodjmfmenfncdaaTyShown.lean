/-
  The document's example of layer 4: true.
-/
import Derived.Test.YtodjmfmenfncdaaTyMem
namespace Go.Proofs.Ytodjmfmenfncdaa
open Go.RowKit

def shC : Array Value := #[.int .u64 0, .int .u64 1025, .int .u64 256, .int .u64 2049, .int .u64 552, .int .u64 3091]
def shV (i j : Nat) : Value := shC.getD (i * 2 + j) (.int .u64 0)
theorem shV_wf : ∀ i, i < 3 → ∀ j, j < 2 → ∃ x : Int, shV i j = .int .u64 x ∧ (Lit.int .u64 x).wf = true := by
  intro i hi j hj
  rcases (show i = 0 ∨ i = 1 ∨ i = 2 by omega) with rfl | rfl | rfl <;> rcases (show j = 0 ∨ j = 1 by omega) with rfl | rfl <;> exact ⟨_, rfl, by decide⟩
theorem sh_1 : tbWalk (memF shV 3) 8 0 1287 1 = some 775 := by decide +kernel
theorem sh_2 : tbWalk (memF shV 3) 8 0 1287 2 = none := by decide +kernel
theorem sh_3 : tbWalk (memF shV 3) 8 0 1024 1 = none := by decide +kernel
theorem sh_4 : tbLeaf (memF shV 3) 8 0 1280 = some 552 := by decide +kernel

set_option maxRecDepth 100000 in
set_option maxHeartbeats 800000 in
theorem tshown (w : World) :
    Calls Try.prog 11 #[] w fun e w' => e = .returned (.bool true) ∧ Below w.heap.size w w' := by
  have hrow : SRow (w.alloc (.cells shC 40)) (some ⟨w.heap.size, 0, none⟩) 3 2 shV := by
    refine .inr ⟨w.heap.size, 0, rfl, by simp, fun i hi j hj => ?_⟩
    rw [(Blk.new w shC 40).cell]
    rcases (show i = 0 ∨ i = 1 ∨ i = 2 by omega) with rfl | rfl | rfl <;> rcases (show j = 0 ∨ j = 1 by omega) with rfl | rfl <;> rfl
  have KM := law_memory _ _ 3 3 shV hrow (fun i hi => shV_wf i hi 0 (by omega)) (fun i hi => shV_wf i hi 1 (by omega)) (by omega)
  have hc0 : Below w.heap.size w (w.alloc (.cells shC 40)) := (Below.refl _ _).alloc (Nat.le_refl _) _
  have hsz : (w.alloc (.cells shC 40)).heap.size = w.heap.size + 1 := by simp
  have W1 := fun (B : Nat) W p r (H : PX (fun k => k < B) W p r 8 (memF shV 3) (memF shV 3)) => Lib.hid (wwalk_1x _ W p r 8 _ _ H (by omega) 0 (by omega) 1287 (by omega))
  have W2 := fun (B : Nat) W p r (H : PX (fun k => k < B) W p r 8 (memF shV 3) (memF shV 3)) => Lib.hid (wwalk_2x _ W p r 8 _ _ H (by omega) 0 (by omega) 1287 (by omega))
  have W3 := fun (B : Nat) W p r (H : PX (fun k => k < B) W p r 8 (memF shV 3) (memF shV 3)) => Lib.hid (wwalk_1x _ W p r 8 _ _ H (by omega) 0 (by omega) 1024 (by omega))
  have W4 := fun (B : Nat) W p r (H : PX (fun k => k < B) W p r 8 (memF shV 3) (memF shV 3)) => Lib.hid (walk_leafx _ W p r 8 _ _ H (by omega) 0 (by omega) 1280 (by omega))
  rw [sh_1, show ((0 : Nat) : Int) = 0 from rfl, show ((1287 : Nat) : Int) = 1287 from rfl] at W1
  rw [sh_2, show ((0 : Nat) : Int) = 0 from rfl, show ((1287 : Nat) : Int) = 1287 from rfl] at W2
  rw [sh_3, show ((0 : Nat) : Int) = 0 from rfl, show ((1024 : Nat) : Int) = 1024 from rfl] at W3
  rw [sh_4, show ((0 : Nat) : Int) = 0 from rfl, show ((1280 : Nat) : Int) = 1280 from rfl] at W4
  simp only [lfVal] at W1 W2 W3 W4
  generalize memF shV 3 = V at *
  unfold shC at KM hc0 hsz
  have KM := Lib.hid KM; have HC := Lib.hid (And.intro hc0 hsz); have W1 := Lib.hid W1; have W2 := Lib.hid W2; have W3 := Lib.hid W3; have W4 := Lib.hid W4
  clear hrow hc0 hsz
  go_enter Try.func11, Try.ntmps11
  go_wp2_with fail
  refine KM.out.mono ?_
  rintro e w1 ⟨p, r, rfl, m1, b1⟩
  have M1 := Lib.hid m1; have B1 := Lib.hid b1; clear m1 b1
  obtain ⟨hc0, hsz⟩ := HC.out
  generalize w.alloc _ = wa at *
  have HW := Lib.hid (And.intro hc0 hsz); clear hc0 hsz
  have OLD := Lib.hid (fun (W W' : World) (h : Below wa.heap.size wa W) (c : Chg (fun k => ¬ k < wa.heap.size) W W') => h.trans (c.below (B := wa.heap.size) h.size (fun _ h => Nat.le_of_not_lt h)))
  go_wp2_with fail
  refine (W1.out _ w1 p r M1.out).out.mono ?_
  rintro e w2 ⟨rfl, m2, c2⟩
  have M2 := Lib.hid m2; have B2 := Lib.hid (OLD.out _ _ B1.out c2); clear m2 c2
  go_wp2_with fail
  refine (W2.out _ w2 p r M2.out).out.mono ?_
  rintro e w3 ⟨rfl, m2, c2⟩
  have M3 := Lib.hid m2; have B3 := Lib.hid (OLD.out _ _ B2.out c2); clear m2 c2
  go_wp2_with fail
  refine (W3.out _ w3 p r M3.out).out.mono ?_
  rintro e w4 ⟨rfl, m2, c2⟩
  have M4 := Lib.hid m2; have B4 := Lib.hid (OLD.out _ _ B3.out c2); clear m2 c2
  go_wp2_with fail
  refine (W4.out _ w4 p r M4.out).out.mono ?_
  rintro e w5 ⟨rfl, m2, c2⟩
  have B5 := Lib.hid (OLD.out _ _ B4.out c2); clear m2 c2
  go_wp2_with fail
  go_ret
  exact ⟨rfl, HW.out.1.trans (B5.out.mono (by have := HW.out.2; omega))⟩
end Go.Proofs.Ytodjmfmenfncdaa
