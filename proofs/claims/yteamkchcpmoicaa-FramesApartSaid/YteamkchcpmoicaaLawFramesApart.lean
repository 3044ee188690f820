/-
  The row of the statement FramesApart: for every input the law returns true; out of its walk.
-/
import Derived.Test.YteamkchcpmoicaaWalkFramesApart
import Derived.Test.YteamkchcpmoicaaOpen
namespace Go.Proofs.Yteamkchcpmoicaa.framesApart
open Go.ChangeShapes Go.WideShapes Go.ChangeAt Go.RowKit Go.Deep
open Go.ChangeMaps (open_string shut_string)
set_option linter.unusedVariables false
theorem own : ownKnob Try.prog.godebug = none := by kernel_rfl
theorem laidOut : laidOutB Try.prog = true := by kernel_rfl
set_option maxRecDepth 100000 in
theorem lifted (os : Os) (started : os.Started) (H : Type) (enc : TypeId × Value → H) :
    ReturnsInHanded {} Try.checked os 8 .any (Rows.framesApartSpec.pre6 enc Try.prog Try.f8 Rows.framesApartRow.domain false) (Rows.framesApartSpec.post enc Try.prog Try.f8 false true false false) := by
  refine returnsInHanded_of_change_sized (C := Try.checked) own started (by kernel_rfl) Try.func8
    (ChangeSpec.witness6 (enc := enc) (C := Try.checked) false ⟨#[], #[.slice none 0 0], []⟩ 8 (by kernel_rfl) (by kernel_rfl) (by kernel_rfl) (by kernel_rfl)) ?_
  intro W base args ds gs before hval0 hW hcnd hsz0 _
  have hsz : (DataW.weightsEach Try.prog (Try.f8.params.toList ++ Rows.framesApartSpec.plain.varTypes Try.prog) (ds ++ gs)).all (· ≤ reachBytes) = true := hsz0
  have hval : ∀ (j : Nat) t v, Try.f8.params[j]? = some t → args[j]? = some v → Value.okWide Try.prog W .any base t v := hval0
  have hW' := hW
  obtain ⟨p, q, hA0, hV, rfl, hfz, hnd⟩ := hW
  have hA : DataW.TrodAll enc Try.prog W 0 (fun _ => true) true Try.f8.params.toList args.toList ds p := hA0
  rw [Try.params8] at hA hval hsz
  obtain ⟨v0, vs0, d0, ds0, p0, q0, hargs, rfl, rfl, h0, r0⟩ := trodAll_cons hA
  obtain ⟨rfl, rfl, rfl⟩ := trodAll_nil r0
  obtain rfl : args = #[v0] := by cases args; simp_all
  obtain ⟨rfl, rfl⟩ := trodVars_none hV
  obtain ⟨a0, len0, cap0, rfl⟩ := okWide_slice Try.underlying22 (hval 0 22 v0 rfl rfl)
  have k0 := h0
  have lt0 : ∀ x ∈ p0, x.block < W.heap.size := by obtain ⟨m, hm⟩ := k0; exact DataW.trod_lt m _ _ _ hm
  have y0 : len0 * Try.prog.bytesOf 34 ≤ 140737488351232 := open_slice_len Try.underlying22 hsz (k := 0) rfl rfl rfl h0
  obtain ⟨V0, s0, g0⟩ := open_srow Try.underlying22 (fs := _) Try.underlying34 (by kernel_rfl) (by kernel_rfl) (by decide) h0
  have t0_0 : ∀ i, i < len0 → ∃ x : Int, V0 i 0 = .int .i64 x ∧ (Lit.int .i64 x).wf = true := fun i hi => field_int Try.underlying3 (g0 i hi 0 _ rfl)
  have t0_1 : ∀ i, i < len0 → ∃ x : Int, V0 i 1 = .int .i64 x ∧ (Lit.int .i64 x).wf = true := fun i hi => field_int Try.underlying3 (g0 i hi 1 _ rfl)
  have t0_2 : ∀ i, i < len0 → ∃ x : Int, V0 i 2 = .int .u64 x ∧ (Lit.int .u64 x).wf = true := fun i hi => field_int Try.underlying32 (g0 i hi 2 _ rfl)
  clear hA0 hval0 hsz0 hsz
  refine (framesApart_walk W a0 len0 cap0 V0 s0 t0_0 t0_1 t0_2 y0).mono fun e W' ⟨he, bel⟩ => ?_
  subst he
  exact ⟨_, rfl, _, _, _, [], _, [], hW', trodAll_mk1 (shut_bool Try.underlying4 _), (trodAll_cons_mk (Below.trod laidOut (by kernel_rfl) (of_decide_eq_true (by kernel_rfl)) k0 bel lt0) trodAll_mk0), rfl, bel.frame _, fun h => by cases h⟩
theorem over : Rows.framesApartRow.holds Try.pinned (OpenSpec.ofChange Rows.framesApartSpec) :=
  OpenClaim.holds_of_wide 8 Try.f8 rfl rfl rfl rfl rfl rfl rfl ⟨rfl, rfl, rfl, rfl, rfl⟩ rfl rfl rfl rfl rfl (by kernel_rfl) Try.func8 (by kernel_rfl)
    (of_decide_eq_true (by kernel_rfl)) (by unfold Func.isWrapper; first | (rw [if_pos (by decide +kernel)]; kernel_rfl) | (rw [if_neg (by decide +kernel)]; exact ⟨rfl, rfl⟩))
    (fun os started H enc _ => lifted os started H enc)
theorem proved : Rows.FramesApartSaid := over
end Go.Proofs.Yteamkchcpmoicaa.framesApart
namespace Go.Proofs.Yteamkchcpmoicaa
/-- the statement FramesApart -/
theorem framesApart_holds : Rows.FramesApartSaid := framesApart.proved
#print axioms framesApart_holds
end Go.Proofs.Yteamkchcpmoicaa
