/-
  The document's Takes by its contract.
-/
import Derived.Test.YtodjmfmenfncdaaG12
namespace Go.Proofs.Ytodjmfmenfncdaa
open Go.RowKit

theorem ref_takes (w : World) (F : Int) :
    Calls Try.prog 45 #[.int .i64 F] w fun e w' => e = .returned (.bool (decide (1 ≤ F ∧ F ≤ 256))) ∧ w = w' := by
  by_cases h1 : 1 ≤ F
  · have d1 : decide ((1 : Int) ≤ F) = true := decide_eq_true h1
    go_enter Try.func45, Try.ntmps45
    go_wp2_with fail
    go_ret
    exact ⟨ret_bool (by simp [h1]), rfl⟩
  · have d1 : decide ((1 : Int) ≤ F) = false := decide_eq_false h1
    go_enter Try.func45, Try.ntmps45
    go_wp2_with fail
    go_ret
    exact ⟨ret_bool (by simp), rfl⟩

end Go.Proofs.Ytodjmfmenfncdaa
