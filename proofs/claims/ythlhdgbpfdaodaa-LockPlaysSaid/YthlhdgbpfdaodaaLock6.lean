/-
  Package lock: New; the examples of the document.
-/
import Derived.Test.YthlhdgbpfdaodaaLock5
namespace Go.Proofs.Ythlhdgbpfdaodaa
open Go.RowKit Go.Maps

theorem lk_new (w : World) (wide : Nat) (h1 : 1 ≤ wide) (h2 : wide ≤ 64) :
    Calls Try.prog 7 #[.int .i64 wide] w fun e w' => e = .returned (.tuple #[.pointer (some ⟨w.heap.size, 0, none⟩), .int .i64 0]) ∧
      LkStep w w.heap.size wide (fun _ => False) 0 0 (fun _ => false) w' := by
  have hd1 : decide ((wide : Int) < 1) = false := by simp; omega
  have hd2 : decide ((64 : Int) < (wide : Int)) = false := by simp; omega
  go_enter Try.func7, Try.ntmps7
  go_wp2_with fail
  go_ret2
  refine ⟨rfl, fun k => k = w.heap.size, .inl ⟨?_, rfl, rfl, rfl⟩, (Chg.refl _ _).alloc _, ?_⟩
  · exact Blk.new w _ _
  · rintro k rfl
    exact .inr (Nat.le_refl _)

theorem lk_new_no (w : World) (wide : Int) (h : wide < 1 ∨ 64 < wide) :
    Calls Try.prog 7 #[.int .i64 wide] w fun e w' => e = .returned (.tuple #[.pointer none, .int .i64 1]) ∧ w = w' := by
  by_cases h1 : wide < 1
  · go_enter Try.func7, Try.ntmps7
    go_wp2_with fail
    go_ret2
    exact ⟨rfl, rfl⟩
  · have h2 : 64 < wide := by omega
    clear h
    go_enter Try.func7, Try.ntmps7
    go_wp2_with fail
    go_ret2
    exact ⟨rfl, rfl⟩

theorem LkStep.of {w : World} {b wide next passed : Nat} {bk : Nat → Bool} {fp : Nat → Prop} {w' : World} (h : LkStep w b wide fp next passed bk w') :
    ∃ fp', LkAt w' b wide next passed bk fp' ∧ Chg fp w w' ∧ ∀ k, fp' k → fp k ∨ w.heap.size ≤ k := h
end Go.Proofs.Ythlhdgbpfdaodaa
