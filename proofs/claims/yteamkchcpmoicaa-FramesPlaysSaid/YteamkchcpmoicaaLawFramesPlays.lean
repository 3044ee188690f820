/-
  The row of the statement FramesPlays: for every input the law returns true; out of its walk.
-/
import Derived.Test.YteamkchcpmoicaaWalkFramesPlays
import Derived.Test.YteamkchcpmoicaaOpen
namespace Go.Proofs.Yteamkchcpmoicaa.framesPlays
open Go.ChangeShapes Go.WideShapes Go.ChangeAt Go.RowKit Go.Deep
open Go.ChangeMaps (open_string shut_string)
set_option linter.unusedVariables false
theorem own : ownKnob Try.prog.godebug = none := by kernel_rfl
theorem laidOut : laidOutB Try.prog = true := by kernel_rfl
set_option maxRecDepth 100000 in
theorem lifted (os : Os) (started : os.Started) (H : Type) (enc : TypeId × Value → H) :
    ReturnsInHanded {} Try.checked os 10 .any (Rows.framesPlaysSpec.pre6 enc Try.prog Try.f10 Rows.framesPlaysRow.domain false) (Rows.framesPlaysSpec.post enc Try.prog Try.f10 false true false false) := by
  refine returnsInHanded_of_change_sized (C := Try.checked) own started (by kernel_rfl) Try.func10
    (ChangeSpec.witness6 (enc := enc) (C := Try.checked) false ⟨#[], #[.int .i64 0, .int .i64 0, .slice none 0 0], []⟩ 8 (by kernel_rfl) (by kernel_rfl) (by kernel_rfl) (by kernel_rfl)) ?_
  intro W base args ds gs before hval0 hW hcnd hsz0 _
  have hsz : (DataW.weightsEach Try.prog (Try.f10.params.toList ++ Rows.framesPlaysSpec.plain.varTypes Try.prog) (ds ++ gs)).all (· ≤ reachBytes) = true := hsz0
  have hval : ∀ (j : Nat) t v, Try.f10.params[j]? = some t → args[j]? = some v → Value.okWide Try.prog W .any base t v := hval0
  have hW' := hW
  obtain ⟨p, q, hA0, hV, rfl, hfz, hnd⟩ := hW
  have hA : DataW.TrodAll enc Try.prog W 0 (fun _ => true) true Try.f10.params.toList args.toList ds p := hA0
  rw [Try.params10] at hA hval hsz
  obtain ⟨v0, vs0, d0, ds0, p0, q0, hargs, rfl, rfl, h0, r0⟩ := trodAll_cons hA
  obtain ⟨v1, vs1, d1, ds1, p1, q1, rfl, rfl, rfl, h1, r1⟩ := trodAll_cons r0
  obtain ⟨v2, vs2, d2, ds2, p2, q2, rfl, rfl, rfl, h2, r2⟩ := trodAll_cons r1
  obtain ⟨rfl, rfl, rfl⟩ := trodAll_nil r2
  obtain rfl : args = #[v0, v1, v2] := by cases args; simp_all
  obtain ⟨rfl, rfl⟩ := trodVars_none hV
  obtain ⟨a0, rfl, rfl, rfl, w0⟩ := open_int Try.underlying3 (hval 0 3 v0 rfl rfl) h0
  obtain ⟨a1, rfl, rfl, rfl, w1⟩ := open_int Try.underlying3 (hval 1 3 v1 rfl rfl) h1
  obtain ⟨a2, len2, cap2, rfl⟩ := okWide_slice Try.underlying22 (hval 2 22 v2 rfl rfl)
  have k2 := h2
  have lt2 : ∀ x ∈ p2, x.block < W.heap.size := by obtain ⟨m, hm⟩ := k2; exact DataW.trod_lt m _ _ _ hm
  have y2 : len2 * Try.prog.bytesOf 34 ≤ 140737488351232 := open_slice_len Try.underlying22 hsz (k := 2) rfl rfl rfl h2
  obtain ⟨V2, s2, g2⟩ := open_srow Try.underlying22 (fs := _) Try.underlying34 (by kernel_rfl) (by kernel_rfl) (by decide) h2
  have t2_0 : ∀ i, i < len2 → ∃ x : Int, V2 i 0 = .int .i64 x ∧ (Lit.int .i64 x).wf = true := fun i hi => field_int Try.underlying3 (g2 i hi 0 _ rfl)
  have t2_1 : ∀ i, i < len2 → ∃ x : Int, V2 i 1 = .int .i64 x ∧ (Lit.int .i64 x).wf = true := fun i hi => field_int Try.underlying3 (g2 i hi 1 _ rfl)
  have t2_2 : ∀ i, i < len2 → ∃ x : Int, V2 i 2 = .int .u64 x ∧ (Lit.int .u64 x).wf = true := fun i hi => field_int Try.underlying32 (g2 i hi 2 _ rfl)
  clear hA0 hval0 hsz0 hsz
  refine (framesPlays_walk W a0 w0 a1 w1 a2 len2 cap2 V2 s2 t2_0 t2_1 t2_2 y2).mono fun e W' ⟨he, bel⟩ => ?_
  subst he
  exact ⟨_, rfl, _, _, _, [], _, [], hW', trodAll_mk1 (shut_bool Try.underlying4 _), (trodAll_cons_mk (shut_int Try.underlying3 w0) (trodAll_cons_mk (shut_int Try.underlying3 w1) (trodAll_cons_mk (Below.trod laidOut (by kernel_rfl) (of_decide_eq_true (by kernel_rfl)) k2 bel lt2) trodAll_mk0))), rfl, bel.frame _, fun h => by cases h⟩
theorem over : Rows.framesPlaysRow.holds Try.pinned (OpenSpec.ofChange Rows.framesPlaysSpec) :=
  OpenClaim.holds_of_wide 10 Try.f10 rfl rfl rfl rfl rfl rfl rfl ⟨rfl, rfl, rfl, rfl, rfl⟩ rfl rfl rfl rfl rfl (by kernel_rfl) Try.func10 (by kernel_rfl)
    (of_decide_eq_true (by kernel_rfl)) (by unfold Func.isWrapper; first | (rw [if_pos (by decide +kernel)]; kernel_rfl) | (rw [if_neg (by decide +kernel)]; exact ⟨rfl, rfl⟩))
    (fun os started H enc _ => lifted os started H enc)
theorem proved : Rows.FramesPlaysSaid := over
end Go.Proofs.Yteamkchcpmoicaa.framesPlays
namespace Go.Proofs.Yteamkchcpmoicaa
/-- the statement FramesPlays -/
theorem framesPlays_holds : Rows.FramesPlaysSaid := framesPlays.proved
#print axioms framesPlays_holds
end Go.Proofs.Yteamkchcpmoicaa
