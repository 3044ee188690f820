/-
  The document's example of layer 3: true.
-/
import Derived.Test.YteamkchcpmoicaaMem8
namespace Go.Proofs.Yteamkchcpmoicaa
open Go.RowKit

def sV0 : Nat → Nat := fun _ => 0
def sV1 : Nat → Nat := stV 2 sV0 255 4 67305985
def sV2 : Nat → Nat := cpV 2 sV1 1 0
theorem ps_1 : ldV 2 sV1 256 2 = 770 := by decide +kernel
theorem ps_2 : gtS 2 sV1 255 4 = ⟨#[1, 2, 3, 4]⟩ := by decide +kernel
theorem ps_3 : ldV 2 sV2 511 1 = 1 := by decide +kernel
theorem ps_4 : ldV 2 sV1 511 2 = 0 := by decide +kernel
theorem ps_5 : ldV 2 sV1 0 3 = 0 := by decide +kernel

set_option maxRecDepth 100000 in
set_option maxHeartbeats 800000 in
theorem pshown (w : World) :
    Calls Try.prog 21 #[] w fun e w' => e = .returned (.bool true) ∧ Below w.heap.size w w' := by
  have K0 := Lib.hid (s_new w.heap.size w (Nat.le_refl _) 2 (by omega) (by omega))
  have K1 := fun W (H : MS w.heap.size W w.heap.size 2 sV0 0) => Lib.hid (s_store H (by omega) (by omega) 255 (by omega) 4 67305985 (by omega))
  have K2 := fun W (H : MS w.heap.size W w.heap.size 2 sV1 1) => Lib.hid (s_load H (by omega) (by omega) 256 (by omega) 2)
  have K3 := fun W (H : MS w.heap.size W w.heap.size 2 sV1 2) => Lib.hid (s_get H (by omega) 255 (by omega) 4 (by omega))
  have K4 := fun W (H : MS w.heap.size W w.heap.size 2 sV1 2) => Lib.hid (s_load H (by omega) (by omega) 511 (by omega) 2)
  have K5 := fun W (H : MS w.heap.size W w.heap.size 2 sV1 2) => Lib.hid (s_load H (by omega) (by omega) 0 (by omega) 3)
  have K6 := fun W (H : MS w.heap.size W w.heap.size 2 sV1 2) => Lib.hid (s_touched H)
  have K7 := fun W (H : MS w.heap.size W w.heap.size 2 sV1 2) => Lib.hid (s_copy H (by omega) 1 0)
  have K8 := fun W (H : MS w.heap.size W w.heap.size 2 sV2 2) => Lib.hid (s_load H (by omega) (by omega) 511 (by omega) 1)
  rw [show (2 : Int).toNat = 2 from rfl] at K0
  rw [show stV 2 sV0 255 4 67305985 = sV1 from rfl, show tc 2 255 4 0 = 1 from by decide +kernel, show cdL 2 255 4 = 0 from by decide +kernel] at K1
  rw [ps_1, show tc 2 256 2 1 = 2 from by decide +kernel, show cdL 2 256 2 = 0 from by decide +kernel] at K2
  rw [ps_2, show cdG 2 255 4 = 0 from by decide +kernel] at K3
  rw [ps_4, show tc 2 511 2 2 = 2 from by decide +kernel, show cdL 2 511 2 = 3 from by decide +kernel] at K4
  rw [ps_5, show tc 2 0 3 2 = 2 from by decide +kernel, show cdL 2 0 3 = 1 from by decide +kernel] at K5
  rw [show cpV 2 sV1 1 0 = sV2 from rfl, show cdC 2 1 0 = 0 from by decide +kernel] at K7
  rw [ps_3, show tc 2 511 1 2 = 3 from by decide +kernel, show cdL 2 511 1 = 0 from by decide +kernel] at K8
  have C1 := Lib.hid K1; have C2 := Lib.hid K2; have C3 := Lib.hid K3; have C4 := Lib.hid K4; have C5 := Lib.hid K5; have C6 := Lib.hid K6; have C7 := Lib.hid K7; have C8 := Lib.hid K8
  clear K1 K2 K3 K4 K5 K6 K7 K8
  generalize hB : w.heap.size = B at *
  have HB := Lib.hid hB; clear hB
  go_enter Try.func21, Try.ntmps21
  go_wp2_with fail
  refine K0.out.mono ?_
  rintro e w1 ⟨rfl, m1, b1⟩
  have M1 := Lib.hid m1; have B1 := Lib.hid b1; clear m1 b1
  go_wp2_with fail
  refine (C1.out w1 M1.out).out.mono ?_
  rintro e w2 ⟨rfl, m1, b1⟩
  have M2 := Lib.hid m1; have B2 := Lib.hid (B1.out.trans b1); clear m1 b1
  go_wp2_with fail
  refine (C2.out w2 M2.out).out.mono ?_
  rintro e w3 ⟨rfl, m1, b1⟩
  have M3 := Lib.hid m1; have B3 := Lib.hid (B2.out.trans b1); clear m1 b1
  go_wp2_with fail
  refine (C3.out w3 M3.out).out.mono ?_
  rintro e w4 ⟨rfl, m1, b1⟩
  have M4 := Lib.hid m1; have B4 := Lib.hid (B3.out.trans b1); clear m1 b1
  go_wp2_with fail
  refine (C4.out w4 M4.out).out.mono ?_
  rintro e w5 ⟨rfl, m1, b1⟩
  have M5 := Lib.hid m1; have B5 := Lib.hid (B4.out.trans b1); clear m1 b1
  go_wp2_with fail
  refine (C5.out w5 M5.out).out.mono ?_
  rintro e w6 ⟨rfl, m1, b1⟩
  have M6 := Lib.hid m1; have B6 := Lib.hid (B5.out.trans b1); clear m1 b1
  go_wp2_with fail
  refine (C6.out w6 M6.out).out.mono ?_
  rintro e wq ⟨rfl, rfl⟩
  go_wp2_with fail
  refine (C7.out w6 M6.out).out.mono ?_
  rintro e w7 ⟨rfl, m1, b1⟩
  have M7 := Lib.hid m1; have B7 := Lib.hid (B6.out.trans b1); clear m1 b1
  go_wp2_with fail
  refine (C8.out w7 M7.out).out.mono ?_
  rintro e w8 ⟨rfl, m1, b1⟩
  have M8 := Lib.hid m1; have B8 := Lib.hid (B7.out.trans b1); clear m1 b1
  go_wp2_with fail
  go_ret
  exact ⟨rfl, B8.out⟩
end Go.Proofs.Yteamkchcpmoicaa
