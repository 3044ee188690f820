/-
  The walk of the statement WordAmo: true, for every input.
-/
import Derived.Test.YtcpmjgjefhpgkaaWdShown
import Derived.Test.YtcpmjgjefhpgkaaRefAmo
namespace Go.Proofs.Ytcpmjgjefhpgkaa
open Go.RowKit

theorem wordAmo_walk (w : World) (op : Int) (w0 : (Lit.int .i64 op).wf = true) (a1 : Int) (w1 : (Lit.int .u64 a1).wf = true) (a2 : Int) (w2 : (Lit.int .u64 a2).wf = true) :
    Calls Try.prog 5 #[.int .i64 op, .int .u64 a1, .int .u64 a2] w fun e w' => e = .returned (.bool true) ∧ Below w.heap.size w w' := by
  obtain ⟨a, rfl, ha⟩ := u64_nat w1
  obtain ⟨b, rfl, hb⟩ := u64_nat w2
  have K1 := fun W => Lib.hid (word_amo W op a b w0 ha hb)
  have K2 := fun W => Lib.hid (ref_amo W op a b ha hb)
  generalize wAmoR op a b = v at *
  generalize wAmoOk op = c at *
  have C1 := Lib.hid K1; have C2 := Lib.hid K2
  clear K1 K2 ha hb w0 w1 w2
  go_enter Try.func5, Try.ntmps5
  go_wp2_with fail
  refine (wshown _).mono ?_
  rintro e w1 ⟨rfl, hsh⟩
  have H1 := Lib.hid hsh; clear hsh
  go_wp2_with fail
  refine (C1.out w1).out.mono ?_
  rintro e w2 ⟨rfl, q2⟩
  have Q2 := Lib.hid q2; clear q2
  go_wp2_with fail
  refine (C2.out w2).out.mono ?_
  rintro e w3 ⟨rfl, rfl⟩
  go_wp2_with fail
  go_ret
  exact ⟨ret_bool (by simp), (H1.out.trans (drawn_chg Q2.out)).below (Nat.le_refl _) (fun _ h => h.elim)⟩
end Go.Proofs.Ytcpmjgjefhpgkaa
