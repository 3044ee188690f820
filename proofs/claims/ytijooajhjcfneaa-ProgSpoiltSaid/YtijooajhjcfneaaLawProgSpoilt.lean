/-
  The row of the statement ProgSpoilt: for every input the law returns true; out of its walk.
-/
import Derived.Test.YtijooajhjcfneaaQWalkProgSpoilt
import Derived.Test.YtijooajhjcfneaaOpen
import Derived.Test.YtijooajhjcfneaaOpenS
import Derived.Lib.SmallJoins
namespace Go.Proofs.Ytijooajhjcfneaa.progSpoilt
open Go.ChangeShapes Go.WideShapes Go.ChangeAt Go.RowKit Go.Deep
open Go.ChangeMaps (open_string shut_string)
set_option linter.unusedVariables false
theorem own : ownKnob Try.prog.godebug = none := by kernel_rfl
theorem laidOut : laidOutB Try.prog = true := by kernel_rfl
set_option maxRecDepth 100000 in
theorem lifted (os : Os) (started : os.Started) (H : Type) (enc : TypeId × Value → H) :
    ReturnsInHanded {} Try.checked os 6 .any (Rows.progSpoiltSpec.pre6 enc Try.prog Try.f6 Rows.progSpoiltRow.domain false) (Rows.progSpoiltSpec.post enc Try.prog Try.f6 false true false false) := by
  refine returnsInHanded_of_change_sized (C := Try.checked) own started (by kernel_rfl) Try.func6
    (ChangeSpec.witness6 (enc := enc) (C := Try.checked) false ⟨#[], #[.agg #[.int .i64 0, .string ByteArray.empty, .string ByteArray.empty, .int .i64 0], .int .i64 0, .int .i64 0], []⟩ 8 (by kernel_rfl) (by kernel_rfl) (by kernel_rfl) (by kernel_rfl)) ?_
  intro W base args ds gs before hval0 hW hcnd hsz0 _
  have hsz : (DataW.weightsEach Try.prog (Try.f6.params.toList ++ Rows.progSpoiltSpec.plain.varTypes Try.prog) (ds ++ gs)).all (· ≤ reachBytes) = true := hsz0
  have hval : ∀ (j : Nat) t v, Try.f6.params[j]? = some t → args[j]? = some v → Value.okWide Try.prog W .any base t v := hval0
  have hW' := hW
  obtain ⟨p, q, hA0, hV, rfl, hfz, hnd⟩ := hW
  have hA : DataW.TrodAll enc Try.prog W 0 (fun _ => true) true Try.f6.params.toList args.toList ds p := hA0
  rw [Try.params6] at hA hval hsz
  obtain ⟨v0, vs0, d0, ds0, p0, q0, hargs, rfl, rfl, h0, r0⟩ := trodAll_cons hA
  obtain ⟨v1, vs1, d1, ds1, p1, q1, rfl, rfl, rfl, h1, r1⟩ := trodAll_cons r0
  obtain ⟨v2, vs2, d2, ds2, p2, q2, rfl, rfl, rfl, h2, r2⟩ := trodAll_cons r1
  obtain ⟨rfl, rfl, rfl⟩ := trodAll_nil r2
  obtain rfl : args = #[v0, v1, v2] := by cases args; simp_all
  obtain ⟨rfl, rfl⟩ := trodVars_none hV
  have k0 := h0
  have lt0 : ∀ x ∈ p0, x.block < W.heap.size := by obtain ⟨m, hm⟩ := k0; exact DataW.trod_lt m _ _ _ hm
  have hv0 := (hval 0 23 v0 rfl rfl)
  obtain ⟨cs0, rfl, z0, g0⟩ := open_agg Try.underlying23 (by kernel_rfl) (by kernel_rfl) hv0 h0
  obtain ⟨l0⟩ := cs0
  rcases l0 with _ | ⟨c0_0, l0⟩
  · simp at z0
  rcases l0 with _ | ⟨c0_1, l0⟩
  · simp at z0
  rcases l0 with _ | ⟨c0_2, l0⟩
  · simp at z0
  rcases l0 with _ | ⟨c0_3, l0⟩
  · simp at z0
  obtain rfl : l0 = [] := by cases l0 with | nil => rfl | cons _ _ => simp at z0
  obtain ⟨a0_0, e0_0, w0_0⟩ : ∃ x : Int, c0_0 = .int .i64 x ∧ (Lit.int .i64 x).wf = true := field_int Try.underlying3 (g0 0 _ rfl)
  subst e0_0
  obtain ⟨a0_1, e0_1, w0_1⟩ : ∃ x : ByteArray, c0_1 = .string x ∧ x.size ≤ maxLen := field_string Try.underlying9 (g0 1 _ rfl)
  subst e0_1
  obtain ⟨a0_2, e0_2, w0_2⟩ : ∃ x : ByteArray, c0_2 = .string x ∧ x.size ≤ maxLen := field_string Try.underlying9 (g0 2 _ rfl)
  subst e0_2
  obtain ⟨a0_3, e0_3, w0_3⟩ : ∃ x : Int, c0_3 = .int .i64 x ∧ (Lit.int .i64 x).wf = true := field_int Try.underlying3 (g0 3 _ rfl)
  subst e0_3
  obtain ⟨a1, rfl, rfl, rfl, w1⟩ := open_int Try.underlying3 (hval 1 3 v1 rfl rfl) h1
  obtain ⟨a2, rfl, rfl, rfl, w2⟩ := open_int Try.underlying3 (hval 2 3 v2 rfl rfl) h2
  clear hA0 hval0 hsz0 hsz
  refine (progSpoilt_walk W a0_0 w0_0 a0_1 w0_1 a0_2 w0_2 a0_3 w0_3 a1 w1 a2 w2).mono fun e W' ⟨he, bel⟩ => ?_
  subst he
  exact ⟨_, rfl, _, _, _, [], _, [], hW', trodAll_mk1 (shut_bool Try.underlying4 _), (trodAll_cons_mk (Below.trod laidOut (by kernel_rfl) (of_decide_eq_true (by kernel_rfl)) k0 bel lt0) (trodAll_cons_mk (shut_int Try.underlying3 w1) (trodAll_cons_mk (shut_int Try.underlying3 w2) trodAll_mk0))), rfl, bel.frame _, fun h => by cases h⟩
theorem over : Rows.progSpoiltRow.holds Try.pinned (OpenSpec.ofChange Rows.progSpoiltSpec) :=
  OpenClaim.holds_of_wide 6 Try.f6 rfl rfl rfl rfl rfl rfl rfl ⟨rfl, rfl, rfl, rfl, rfl⟩ rfl rfl rfl rfl rfl (by kernel_rfl) Try.func6 (by kernel_rfl)
    (of_decide_eq_true (by kernel_rfl)) (by unfold Func.isWrapper; first | (rw [if_pos (by decide +kernel)]; kernel_rfl) | (rw [if_neg (by decide +kernel)]; exact ⟨rfl, rfl⟩))
    (fun os started H enc _ => lifted os started H enc)
theorem proved : Rows.ProgSpoiltSaid := over
end Go.Proofs.Ytijooajhjcfneaa.progSpoilt
namespace Go.Proofs.Ytijooajhjcfneaa
/-- the statement ProgSpoilt -/
theorem progSpoilt_holds : Rows.ProgSpoiltSaid := progSpoilt.proved
#print axioms progSpoilt_holds
end Go.Proofs.Ytijooajhjcfneaa
