/-
  The walk of the statement LockNil: true, for every ticket.
-/
import Derived.Test.YthlhdgbpfdaodaaLock9
namespace Go.Proofs.Ythlhdgbpfdaodaa
open Go.RowKit

theorem lockNil_walk (w : World) (a0 : Int) (_w0 : (Lit.int .u64 a0).wf = true) :
    Calls Try.prog 4 #[.int .u64 a0] w fun e w' => e = .returned (.bool true) ∧ Below w.heap.size w w' := by
  go_enter Try.func4, Try.ntmps4
  go_wp2_with fail
  refine (shown_true _).mono ?_
  rintro e w1 ⟨rfl, h1⟩
  have H1 := Lib.hid h1; clear h1
  go_wp2_with fail
  refine (lk_ask_nil w1).mono ?_
  rintro e w2 ⟨rfl, rfl⟩
  go_wp2_with fail
  refine (lk_pass_nil w1 a0).mono ?_
  rintro e w2 ⟨rfl, n, rfl⟩
  go_wp2_with fail
  refine (lk_has_nil _ a0).mono ?_
  rintro e w2 ⟨rfl, m, rfl⟩
  go_wp2_with fail
  refine (lk_waiting_nil _).mono ?_
  rintro e w2 ⟨rfl, rfl⟩
  go_wp2_with fail
  refine (lk_let_nil _).mono ?_
  rintro e w2 ⟨rfl, rfl⟩
  go_wp2_with fail
  go_ret
  exact ⟨rfl, (Chg.below (H1.out.drewN _) (Nat.le_refl _) (fun _ h => h.elim))⟩
end Go.Proofs.Ythlhdgbpfdaodaa
