/-
  Package lock: the small methods, each by a contract, for whatever lock that was made by New.
-/
import Derived.Test.YthlhdgbpfdaodaaWd
import Derived.Test.YthlhdgbpfdaodaaOnce
import Derived.Maps.OwnSet
namespace Go.Proofs.Ythlhdgbpfdaodaa
open Go.RowKit Go.Maps

/-- sync/atomic.Uint64.Load -/
theorem at_load (a : Addr) (n : Int) (w : World) (hc : w.cell? a = some (.int .u64 n)) :
    Calls Try.prog 19 #[.pointer (some a)] w fun e w' => e = .returned (.int .u64 n) ∧ w = w' := by
  have hl := run_call_load (P := Try.prog) Try.func22 (by kernel_rfl) (by kernel_rfl) (by kernel_rfl) .u64 (by kernel_rfl) hc
  go_enter Try.func19, Try.ntmps19
  go_wp2
  go_ret
  exact ⟨rfl, rfl⟩

/-- sync/atomic.Uint64.Add of 1 -/
theorem at_add1 (a : Addr) (n : Nat) (hn : n ≤ 4611686018427387904) (w : World) (hc : w.cell? a = some (.int .u64 n)) (hz : w.frozen? a = false) :
    Calls Try.prog 20 #[.pointer (some a), .int .u64 1] w fun e w' => e = .returned (.int .u64 (n + 1)) ∧ w' = w.setCell a (.int .u64 ((n : Int) + 1)) := by
  have hs : (Op.intArith .add .u64 (n : Int) 1).run Try.prog w = .ok (.int .u64 ((n : Int) + 1)) w := by
    simp [go_sem]
    unfold IntKind.wrap
    simp [IntKind.bits, IntKind.signed]
    omega
  have hl := run_call_add (P := Try.prog) Try.func23 (by kernel_rfl) (by kernel_rfl) (by kernel_rfl) .u64 (by kernel_rfl) hc hz hs
  clear hs
  go_enter Try.func20, Try.ntmps20
  go_wp2
  go_ret
  exact ⟨rfl, rfl⟩
end Go.Proofs.Ythlhdgbpfdaodaa
