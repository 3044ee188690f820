/-
  The row of the statement SpaceTexts: for every input the law returns true; out of its walk.
-/
import Derived.Test.YtodjmfmenfncdaaGreatQWalkSpaceTexts
import Derived.Test.YtodjmfmenfncdaaGreatOpen
namespace Go.Proofs.YtodjmfmenfncdaaGreat.spaceTexts
open Go.ChangeShapes Go.WideShapes Go.ChangeAt Go.RowKit Go.Deep
open Go.ChangeMaps (open_string shut_string)
set_option linter.unusedVariables false
theorem own : ownKnob Tryz.prog.godebug = none := by kernel_rfl
theorem laidOut : laidOutB Tryz.prog = true := by kernel_rfl
set_option maxRecDepth 100000 in
theorem lifted (os : Os) (started : os.Started) (H : Type) (enc : TypeId × Value → H) :
    ReturnsInHanded {} Tryz.checked os 3 .any (Rows.spaceTextsSpec.pre6 enc Tryz.prog Tryz.f3 Rows.spaceTextsRow.domain false) (Rows.spaceTextsSpec.post enc Tryz.prog Tryz.f3 false true false false) := by
  refine returnsInHanded_of_change_sized (C := Tryz.checked) own started (by kernel_rfl) Tryz.func3
    (ChangeSpec.witness6 (enc := enc) (C := Tryz.checked) false ⟨#[], #[.slice none 0 0, .int .u64 0, .int .i64 0], []⟩ 8 (by kernel_rfl) (by kernel_rfl) (by kernel_rfl) (by kernel_rfl)) ?_
  intro W base args ds gs before hval0 hW hcnd hsz0 _
  have hsz : (DataW.weightsEach Tryz.prog (Tryz.f3.params.toList ++ Rows.spaceTextsSpec.plain.varTypes Tryz.prog) (ds ++ gs)).all (· ≤ reachBytes) = true := hsz0
  have hval : ∀ (j : Nat) t v, Tryz.f3.params[j]? = some t → args[j]? = some v → Value.okWide Tryz.prog W .any base t v := hval0
  have hW' := hW
  obtain ⟨p, q, hA0, hV, rfl, hfz, hnd⟩ := hW
  have hA : DataW.TrodAll enc Tryz.prog W 0 (fun _ => true) true Tryz.f3.params.toList args.toList ds p := hA0
  rw [Tryz.params3] at hA hval hsz
  obtain ⟨v0, vs0, d0, ds0, p0, q0, hargs, rfl, rfl, h0, r0⟩ := trodAll_cons hA
  obtain ⟨v1, vs1, d1, ds1, p1, q1, rfl, rfl, rfl, h1, r1⟩ := trodAll_cons r0
  obtain ⟨v2, vs2, d2, ds2, p2, q2, rfl, rfl, rfl, h2, r2⟩ := trodAll_cons r1
  obtain ⟨rfl, rfl, rfl⟩ := trodAll_nil r2
  obtain rfl : args = #[v0, v1, v2] := by cases args; simp_all
  obtain ⟨rfl, rfl⟩ := trodVars_none hV
  obtain ⟨a0, len0, cap0, rfl⟩ := okWide_slice Tryz.underlying22 (hval 0 22 v0 rfl rfl)
  have k0 := h0
  have lt0 : ∀ x ∈ p0, x.block < W.heap.size := by obtain ⟨m, hm⟩ := k0; exact DataW.trod_lt m _ _ _ hm
  have y0 : len0 * Tryz.prog.bytesOf 74 ≤ 140737488351232 := open_slice_len Tryz.underlying22 hsz (k := 0) rfl rfl rfl h0
  obtain ⟨V0, s0, g0⟩ := open_srow Tryz.underlying22 (fs := _) Tryz.underlying74 (by kernel_rfl) (by kernel_rfl) (by decide) h0
  have t0_0 : ∀ i, i < len0 → ∃ x : Int, V0 i 0 = .int .i64 x ∧ (Lit.int .i64 x).wf = true := fun i hi => field_int Tryz.underlying3 (g0 i hi 0 _ rfl)
  have t0_1 : ∀ i, i < len0 → ∃ x : Int, V0 i 1 = .int .i64 x ∧ (Lit.int .i64 x).wf = true := fun i hi => field_int Tryz.underlying3 (g0 i hi 1 _ rfl)
  have t0_2 : ∀ i, i < len0 → ∃ x : Int, V0 i 2 = .int .i64 x ∧ (Lit.int .i64 x).wf = true := fun i hi => field_int Tryz.underlying3 (g0 i hi 2 _ rfl)
  have t0_3 : ∀ i, i < len0 → ∃ x : Int, V0 i 3 = .int .i64 x ∧ (Lit.int .i64 x).wf = true := fun i hi => field_int Tryz.underlying3 (g0 i hi 3 _ rfl)
  have t0_4 : ∀ i, i < len0 → ∃ x : Int, V0 i 4 = .int .u64 x ∧ (Lit.int .u64 x).wf = true := fun i hi => field_int Tryz.underlying23 (g0 i hi 4 _ rfl)
  have t0_5 : ∀ i, i < len0 → ∃ x : Int, V0 i 5 = .int .u64 x ∧ (Lit.int .u64 x).wf = true := fun i hi => field_int Tryz.underlying23 (g0 i hi 5 _ rfl)
  have t0_6 : ∀ i, i < len0 → ∃ x : ByteArray, V0 i 6 = .string x ∧ x.size ≤ maxLen := fun i hi => field_string Tryz.underlying9 (g0 i hi 6 _ rfl)
  obtain ⟨a1, rfl, rfl, rfl, w1⟩ := open_int Tryz.underlying23 (hval 1 23 v1 rfl rfl) h1
  obtain ⟨a2, rfl, rfl, rfl, w2⟩ := open_int Tryz.underlying3 (hval 2 3 v2 rfl rfl) h2
  clear hA0 hval0 hsz0 hsz
  refine (spaceTexts_walk W a0 len0 cap0 V0 s0 t0_0 t0_1 t0_2 t0_3 t0_4 t0_5 t0_6 y0 a1 w1 a2 w2).mono fun e W' ⟨he, bel⟩ => ?_
  subst he
  exact ⟨_, rfl, _, _, _, [], _, [], hW', trodAll_mk1 (shut_bool Tryz.underlying4 _), (trodAll_cons_mk (Below.trod laidOut (by kernel_rfl) (of_decide_eq_true (by kernel_rfl)) k0 bel lt0) (trodAll_cons_mk (shut_int Tryz.underlying23 w1) (trodAll_cons_mk (shut_int Tryz.underlying3 w2) trodAll_mk0))), rfl, bel.frame _, fun h => by cases h⟩
theorem over : Rows.spaceTextsRow.holds Tryz.pinned (OpenSpec.ofChange Rows.spaceTextsSpec) :=
  OpenClaim.holds_of_wide 3 Tryz.f3 rfl rfl rfl rfl rfl rfl rfl ⟨rfl, rfl, rfl, rfl, rfl⟩ rfl rfl rfl rfl rfl (by kernel_rfl) Tryz.func3 (by kernel_rfl)
    (of_decide_eq_true (by kernel_rfl)) (by unfold Func.isWrapper; first | (rw [if_pos (by decide +kernel)]; kernel_rfl) | (rw [if_neg (by decide +kernel)]; exact ⟨rfl, rfl⟩))
    (fun os started H enc _ => lifted os started H enc)
theorem proved : Rows.SpaceTextsSaid := over
end Go.Proofs.YtodjmfmenfncdaaGreat.spaceTexts
namespace Go.Proofs.YtodjmfmenfncdaaGreat
/-- the statement SpaceTexts -/
theorem spaceTexts_holds : Rows.SpaceTextsSaid := spaceTexts.proved
#print axioms spaceTexts_holds
end Go.Proofs.YtodjmfmenfncdaaGreat
