/-
  The document's pool of frames: New, Take by their contracts.
-/
import Derived.Test.YtodjmfmenfncdaaQRPool1
namespace Go.Proofs.Ytodjmfmenfncdaa
open Go.RowKit

set_option maxRecDepth 100000 in
set_option maxHeartbeats 800000 in
theorem rp_new_no (w : World) (r g F t : Nat) (hF : F ≤ 256) (V : Nat → Nat) (h : RM w r g F V t) (first : Int) (hf : first < 0 ∨ (F : Int) < first) :
    Calls Try.prog 46 #[.pointer (some ⟨r, 0, none⟩), .int .i64 first] w fun e w' => e = .returned (.pointer none) ∧ w = w' := by
  have c0 : w.cell? ⟨r, 0, none⟩ = some (.slice (some ⟨g, 0, none⟩) (F * 256) (F * 256)) := h.blk.cellv 0 _ rfl
  have q0 : ((F : Int) * 256).tdiv 256 = (F : Int) := Int.mul_tdiv_cancel _ (by decide)
  have q1 : wrap64 (F : Int) = (F : Int) := by unfold wrap64; omega
  clear h
  by_cases h1 : first < 0
  · have d1 : decide (first < (0 : Int)) = true := decide_eq_true h1
    clear hf
    go_enter Try.func46, Try.ntmps46
    go_wp2_with fail
    go_ret
    exact ⟨rfl, rfl⟩
  · have d1 : decide (first < (0 : Int)) = false := decide_eq_false h1
    have h2 : (F : Int) < first := by omega
    have d2 : decide ((F : Int) < first) = true := decide_eq_true h2
    clear hf h1
    go_enter Try.func46, Try.ntmps46
    go_wp2_with fail
    go_ret
    exact ⟨rfl, rfl⟩

set_option maxRecDepth 100000 in
set_option maxHeartbeats 800000 in
theorem rp_new (w : World) (r g F first t : Nat) (hF : F ≤ 256) (V : Nat → Nat) (h : RM w r g F V t) (hf : first ≤ F) :
    Calls Try.prog 46 #[.pointer (some ⟨r, 0, none⟩), .int .i64 first] w fun e w' => e = .returned (.pointer (some ⟨w.heap.size + 1, 0, none⟩)) ∧ RPool w' (w.heap.size + 1) w.heap.size r g F first (fun _ => false) V t ∧ Chg (fun _ => False) w w' := by
  have c0 : w.cell? ⟨r, 0, none⟩ = some (.slice (some ⟨g, 0, none⟩) (F * 256) (F * 256)) := h.blk.cellv 0 _ rfl
  have q0 : ((F : Int) * 256).tdiv 256 = (F : Int) := Int.mul_tdiv_cancel _ (by decide)
  have q1 : wrap64 (F : Int) = (F : Int) := by unfold wrap64; omega
  have d1 : decide ((first : Int) < (0 : Int)) = false := decide_eq_false (by omega)
  have d2 : decide ((F : Int) < (first : Int)) = false := decide_eq_false (by omega)
  have d3 : ¬ F < first := by omega
  have hmb := fun W => make_bools W F (by omega)
  have HH := Lib.hid h
  clear h
  go_enter Try.func46, Try.ntmps46
  go_wp2_with fail
  go_ret
  have h := HH.out
  have l1 := h.blk.lt
  have l2 := h.row.lt
  have c : Chg (fun _ => False) w ((w.alloc (.cells (falses F) BoT)).alloc (.cells #[.pointer (some ⟨r, 0, none⟩), .int .i64 first, .slice (some ⟨w.heap.size, 0, none⟩) F F] RpT)) := ((Chg.refl _ w).alloc _).alloc _
  have hb := Blk.new (w.alloc (.cells (falses F) BoT)) #[.pointer (some ⟨r, 0, none⟩), .int .i64 first, .slice (some ⟨w.heap.size, 0, none⟩) F F] RpT
  rw [show (w.alloc (.cells (falses F) BoT)).heap.size = w.heap.size + 1 from by simp] at hb
  exact ⟨by simp, ⟨h.chg c (fun h => h) (fun h => h), hb, ⟨_, (Blk.new w _ _).alloc _, size_madeCells _ _, fun i hi => falses_get F i hi⟩, by omega, by omega, by omega, by omega, by omega, hf⟩, c⟩

end Go.Proofs.Ytodjmfmenfncdaa
