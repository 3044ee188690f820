/-
  The walk of the statement SpaceNil: true, for every input.
-/
import Derived.Test.YtodjmfmenfncdaaG12
namespace Go.Proofs.Ytodjmfmenfncdaa
open Go.RowKit

set_option maxRecDepth 100000 in
set_option maxHeartbeats 1600000 in
theorem spaceNil_walk (w : World) (root : Int) (_w0 : (Lit.int .i64 root).wf = true) (at_ : Int) (_w1 : (Lit.int .u64 at_).wf = true) :
    Calls Try.prog 10 #[.int .i64 root, .int .u64 at_] w fun e w' => e = .returned (.bool true) ∧ Below w.heap.size w w' := by
  have KS := Lib.hid (sp_shown w)
  go_enter Try.func10, Try.ntmps10
  go_wp2_with fail
  refine KS.out.mono ?_
  rintro e w1 ⟨rfl, b1⟩
  have B1 := Lib.hid b1; clear b1
  go_wp2_with fail
  refine (sp_new_nil w1).mono ?_
  rintro e w' ⟨rfl, rfl⟩
  go_wp2_with fail
  refine (sp_map_nil w1 root 1 1).mono ?_
  rintro e w' ⟨rfl, rfl⟩
  go_wp2_with fail
  refine (sp_pages_nil w1 root).mono ?_
  rintro e w' ⟨rfl, rfl⟩
  go_wp2_with fail
  refine (sp_free_nil w1 root).mono ?_
  rintro e w2 ⟨rfl, c2⟩
  have B2 := Lib.hid (B1.out.trans (c2.below B1.out.size (fun _ h => h.elim))); clear c2
  go_wp2_with fail
  refine (sp_copy_nil w2 root).mono ?_
  rintro e w3 ⟨rfl, c3⟩
  have B3 := Lib.hid (B2.out.trans (c3.below B2.out.size (fun _ h => h.elim))); clear c3
  go_wp2_with fail
  refine (sp_in_nil w3 root at_ 1).mono ?_
  rintro e w' ⟨rfl, rfl⟩
  go_wp2_with fail
  refine (sp_out_nil w3 root at_ _).mono ?_
  rintro e w' ⟨rfl, rfl⟩
  go_wp2_with fail
  refine (sp_text_nil w3 root at_ 1).mono ?_
  rintro e w' ⟨rfl, rfl⟩
  go_wp2_with fail
  go_ret
  exact ⟨rfl, B3.out⟩
end Go.Proofs.Ytodjmfmenfncdaa
