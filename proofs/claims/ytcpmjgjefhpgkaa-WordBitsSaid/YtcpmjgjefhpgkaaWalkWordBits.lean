/-
  The walk of the statement WordBits: true, for every input.
-/
import Derived.Test.YtcpmjgjefhpgkaaWdShown
import Derived.Test.YtcpmjgjefhpgkaaRefA
namespace Go.Proofs.Ytcpmjgjefhpgkaa
open Go.RowKit

theorem wordBits_walk (w : World) (a0 : Int) (w0 : (Lit.int .u64 a0).wf = true) (a1 : Int) (w1 : (Lit.int .i64 a1).wf = true) :
    Calls Try.prog 3 #[.int .u64 a0, .int .i64 a1] w fun e w' => e = .returned (.bool true) ∧ Below w.heap.size w w' := by
  obtain ⟨a, rfl, ha⟩ := u64_nat w0
  have K1 := fun W => Lib.hid (word_sign W a a1)
  have K2 := fun W => Lib.hid (ref_sign W a ha a1)
  have K3 := fun W => Lib.hid (word_low W a ha a1)
  have K4 := fun W => Lib.hid (ref_low W a a1)
  generalize wSign a a1 = s at *
  generalize wLow a a1 = l at *
  have C1 := Lib.hid K1; have C2 := Lib.hid K2; have C3 := Lib.hid K3; have C4 := Lib.hid K4
  clear K1 K2 K3 K4 ha w0 w1
  go_enter Try.func3, Try.ntmps3
  go_wp2_with fail
  refine (wshown _).mono ?_
  rintro e w1 ⟨rfl, hsh⟩
  have H1 := Lib.hid hsh; clear hsh
  go_wp2_with fail
  refine (C1.out w1).out.mono ?_
  rintro e w2 ⟨rfl, rfl⟩
  go_wp2_with fail
  refine (C2.out w1).out.mono ?_
  rintro e w2 ⟨rfl, rfl⟩
  go_wp2_with fail
  refine (C3.out w1).out.mono ?_
  rintro e w2 ⟨rfl, rfl⟩
  go_wp2_with fail
  refine (C4.out w1).out.mono ?_
  rintro e w2 ⟨rfl, rfl⟩
  go_wp2_with fail
  go_ret
  exact ⟨rfl, H1.out.below (Nat.le_refl _) (fun _ h => h.elim)⟩
end Go.Proofs.Ytcpmjgjefhpgkaa
