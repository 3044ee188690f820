/-
  The row of the statement ProgBytes: for every input the law returns true; out of its walk.
-/
import Derived.Test.YtijooajhjcfneaaGreatQWalkProgBytes
import Derived.Test.YtijooajhjcfneaaGreatOpen
import Derived.Test.YtijooajhjcfneaaGreatOpenS
import Derived.Lib.SmallJoins
namespace Go.Proofs.YtijooajhjcfneaaGreat.progBytes
open Go.ChangeShapes Go.WideShapes Go.ChangeAt Go.RowKit Go.Deep
open Go.ChangeMaps (open_string shut_string)
set_option linter.unusedVariables false
theorem own : ownKnob Tryz.prog.godebug = none := by kernel_rfl
theorem laidOut : laidOutB Tryz.prog = true := by kernel_rfl
set_option maxRecDepth 100000 in
theorem lifted (os : Os) (started : os.Started) (H : Type) (enc : TypeId × Value → H) :
    ReturnsInHanded {} Tryz.checked os 4 .any (Rows.progBytesSpec.pre6 enc Tryz.prog Tryz.f4 Rows.progBytesRow.domain false) (Rows.progBytesSpec.post enc Tryz.prog Tryz.f4 false true false false) := by
  refine returnsInHanded_of_change_sized (C := Tryz.checked) own started (by kernel_rfl) Tryz.func4
    (ChangeSpec.witness6 (enc := enc) (C := Tryz.checked) false ⟨#[], #[.agg #[.int .i64 0, .string ByteArray.empty, .string ByteArray.empty, .int .i64 0]], []⟩ 8 (by kernel_rfl) (by kernel_rfl) (by kernel_rfl) (by kernel_rfl)) ?_
  intro W base args ds gs before hval0 hW hcnd hsz0 _
  have hsz : (DataW.weightsEach Tryz.prog (Tryz.f4.params.toList ++ Rows.progBytesSpec.plain.varTypes Tryz.prog) (ds ++ gs)).all (· ≤ reachBytes) = true := hsz0
  have hval : ∀ (j : Nat) t v, Tryz.f4.params[j]? = some t → args[j]? = some v → Value.okWide Tryz.prog W .any base t v := hval0
  have hW' := hW
  obtain ⟨p, q, hA0, hV, rfl, hfz, hnd⟩ := hW
  have hA : DataW.TrodAll enc Tryz.prog W 0 (fun _ => true) true Tryz.f4.params.toList args.toList ds p := hA0
  rw [Tryz.params4] at hA hval hsz
  obtain ⟨v0, vs0, d0, ds0, p0, q0, hargs, rfl, rfl, h0, r0⟩ := trodAll_cons hA
  obtain ⟨rfl, rfl, rfl⟩ := trodAll_nil r0
  obtain rfl : args = #[v0] := by cases args; simp_all
  obtain ⟨rfl, rfl⟩ := trodVars_none hV
  have k0 := h0
  have lt0 : ∀ x ∈ p0, x.block < W.heap.size := by obtain ⟨m, hm⟩ := k0; exact DataW.trod_lt m _ _ _ hm
  have hv0 := (hval 0 23 v0 rfl rfl)
  obtain ⟨cs0, rfl, z0, g0⟩ := open_agg Tryz.underlying23 (by kernel_rfl) (by kernel_rfl) hv0 h0
  obtain ⟨l0⟩ := cs0
  rcases l0 with _ | ⟨c0_0, l0⟩
  · simp at z0
  rcases l0 with _ | ⟨c0_1, l0⟩
  · simp at z0
  rcases l0 with _ | ⟨c0_2, l0⟩
  · simp at z0
  rcases l0 with _ | ⟨c0_3, l0⟩
  · simp at z0
  obtain rfl : l0 = [] := by cases l0 with | nil => rfl | cons _ _ => simp at z0
  obtain ⟨a0_0, e0_0, w0_0⟩ : ∃ x : Int, c0_0 = .int .i64 x ∧ (Lit.int .i64 x).wf = true := field_int Tryz.underlying3 (g0 0 _ rfl)
  subst e0_0
  obtain ⟨a0_1, e0_1, w0_1⟩ : ∃ x : ByteArray, c0_1 = .string x ∧ x.size ≤ maxLen := field_string Tryz.underlying9 (g0 1 _ rfl)
  subst e0_1
  obtain ⟨a0_2, e0_2, w0_2⟩ : ∃ x : ByteArray, c0_2 = .string x ∧ x.size ≤ maxLen := field_string Tryz.underlying9 (g0 2 _ rfl)
  subst e0_2
  obtain ⟨a0_3, e0_3, w0_3⟩ : ∃ x : Int, c0_3 = .int .i64 x ∧ (Lit.int .i64 x).wf = true := field_int Tryz.underlying3 (g0 3 _ rfl)
  subst e0_3
  clear hA0 hval0 hsz0 hsz
  refine (progBytes_walk W a0_0 w0_0 a0_1 w0_1 a0_2 w0_2 a0_3 w0_3).mono fun e W' ⟨he, bel⟩ => ?_
  subst he
  exact ⟨_, rfl, _, _, _, [], _, [], hW', trodAll_mk1 (shut_bool Tryz.underlying4 _), (trodAll_cons_mk (Below.trod laidOut (by kernel_rfl) (of_decide_eq_true (by kernel_rfl)) k0 bel lt0) trodAll_mk0), rfl, bel.frame _, fun h => by cases h⟩
theorem over : Rows.progBytesRow.holds Tryz.pinned (OpenSpec.ofChange Rows.progBytesSpec) :=
  OpenClaim.holds_of_wide 4 Tryz.f4 rfl rfl rfl rfl rfl rfl rfl ⟨rfl, rfl, rfl, rfl, rfl⟩ rfl rfl rfl rfl rfl (by kernel_rfl) Tryz.func4 (by kernel_rfl)
    (of_decide_eq_true (by kernel_rfl)) (by unfold Func.isWrapper; first | (rw [if_pos (by decide +kernel)]; kernel_rfl) | (rw [if_neg (by decide +kernel)]; exact ⟨rfl, rfl⟩))
    (fun os started H enc _ => lifted os started H enc)
theorem proved : Rows.ProgBytesSaid := over
end Go.Proofs.YtijooajhjcfneaaGreat.progBytes
namespace Go.Proofs.YtijooajhjcfneaaGreat
/-- the statement ProgBytes -/
theorem progBytes_holds : Rows.ProgBytesSaid := progBytes.proved
#print axioms progBytes_holds
end Go.Proofs.YtijooajhjcfneaaGreat
