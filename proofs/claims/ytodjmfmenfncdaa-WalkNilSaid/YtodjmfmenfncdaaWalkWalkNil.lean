/-
  The walk of the statement WalkNil: true, for every input.
-/
import Derived.Test.YtodjmfmenfncdaaTbShown
namespace Go.Proofs.Ytodjmfmenfncdaa
open Go.RowKit

theorem walkNil_walk (w : World) (root : Int) (_w0 : (Lit.int .i64 root).wf = true) (at_ : Int) (_w1 : (Lit.int .u64 at_).wf = true) (acc : Int) (_w2 : (Lit.int .i64 acc).wf = true) :
    Calls Try.prog 4 #[.int .i64 root, .int .u64 at_, .int .i64 acc] w fun e w' => e = .returned (.bool true) ∧ Below w.heap.size w w' := by
  go_enter Try.func4, Try.ntmps4
  go_wp2_with fail
  refine (tshown w).mono ?_
  rintro e w1 ⟨rfl, b1⟩
  have B1 := Lib.hid b1; clear b1
  go_wp2_with fail
  refine (leaf_nil w1 root at_).mono ?_
  rintro e w' ⟨rfl, rfl⟩
  go_wp2_with fail
  refine (wwalk_nil w1 root at_ acc).mono ?_
  rintro e w' ⟨rfl, rfl⟩
  go_wp2_with fail
  go_ret
  exact ⟨rfl, B1.out⟩
end Go.Proofs.Ytodjmfmenfncdaa
