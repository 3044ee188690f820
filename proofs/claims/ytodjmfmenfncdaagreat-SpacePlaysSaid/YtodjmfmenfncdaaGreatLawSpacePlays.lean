/-
  The row of the statement SpacePlays: for every input the law returns true; out of its walk.
-/
import Derived.Test.YtodjmfmenfncdaaGreatQWalkSpacePlays
import Derived.Test.YtodjmfmenfncdaaGreatOpen
namespace Go.Proofs.YtodjmfmenfncdaaGreat.spacePlays
open Go.ChangeShapes Go.WideShapes Go.ChangeAt Go.RowKit Go.Deep
open Go.ChangeMaps (open_string shut_string)
set_option linter.unusedVariables false
theorem own : ownKnob Tryz.prog.godebug = none := by kernel_rfl
theorem laidOut : laidOutB Tryz.prog = true := by kernel_rfl
set_option maxRecDepth 100000 in
theorem lifted (os : Os) (started : os.Started) (H : Type) (enc : TypeId × Value → H) :
    ReturnsInHanded {} Tryz.checked os 4 .any (Rows.spacePlaysSpec.pre6 enc Tryz.prog Tryz.f4 Rows.spacePlaysRow.domain false) (Rows.spacePlaysSpec.post enc Tryz.prog Tryz.f4 false true false false) := by
  refine returnsInHanded_of_change_sized (C := Tryz.checked) own started (by kernel_rfl) Tryz.func4
    (ChangeSpec.witness6 (enc := enc) (C := Tryz.checked) false ⟨#[], #[.int .i64 0, .slice none 0 0], []⟩ 8 (by kernel_rfl) (by kernel_rfl) (by kernel_rfl) (by kernel_rfl)) ?_
  intro W base args ds gs before hval0 hW hcnd hsz0 _
  have hsz : (DataW.weightsEach Tryz.prog (Tryz.f4.params.toList ++ Rows.spacePlaysSpec.plain.varTypes Tryz.prog) (ds ++ gs)).all (· ≤ reachBytes) = true := hsz0
  have hval : ∀ (j : Nat) t v, Tryz.f4.params[j]? = some t → args[j]? = some v → Value.okWide Tryz.prog W .any base t v := hval0
  have hW' := hW
  obtain ⟨p, q, hA0, hV, rfl, hfz, hnd⟩ := hW
  have hA : DataW.TrodAll enc Tryz.prog W 0 (fun _ => true) true Tryz.f4.params.toList args.toList ds p := hA0
  rw [Tryz.params4] at hA hval hsz
  obtain ⟨v0, vs0, d0, ds0, p0, q0, hargs, rfl, rfl, h0, r0⟩ := trodAll_cons hA
  obtain ⟨v1, vs1, d1, ds1, p1, q1, rfl, rfl, rfl, h1, r1⟩ := trodAll_cons r0
  obtain ⟨rfl, rfl, rfl⟩ := trodAll_nil r1
  obtain rfl : args = #[v0, v1] := by cases args; simp_all
  obtain ⟨rfl, rfl⟩ := trodVars_none hV
  obtain ⟨a0, rfl, rfl, rfl, w0⟩ := open_int Tryz.underlying3 (hval 0 3 v0 rfl rfl) h0
  obtain ⟨a1, len1, cap1, rfl⟩ := okWide_slice Tryz.underlying22 (hval 1 22 v1 rfl rfl)
  have k1 := h1
  have lt1 : ∀ x ∈ p1, x.block < W.heap.size := by obtain ⟨m, hm⟩ := k1; exact DataW.trod_lt m _ _ _ hm
  have y1 : len1 * Tryz.prog.bytesOf 74 ≤ 140737488351232 := open_slice_len Tryz.underlying22 hsz (k := 1) rfl rfl rfl h1
  obtain ⟨V1, s1, g1⟩ := open_srow Tryz.underlying22 (fs := _) Tryz.underlying74 (by kernel_rfl) (by kernel_rfl) (by decide) h1
  have t1_0 : ∀ i, i < len1 → ∃ x : Int, V1 i 0 = .int .i64 x ∧ (Lit.int .i64 x).wf = true := fun i hi => field_int Tryz.underlying3 (g1 i hi 0 _ rfl)
  have t1_1 : ∀ i, i < len1 → ∃ x : Int, V1 i 1 = .int .i64 x ∧ (Lit.int .i64 x).wf = true := fun i hi => field_int Tryz.underlying3 (g1 i hi 1 _ rfl)
  have t1_2 : ∀ i, i < len1 → ∃ x : Int, V1 i 2 = .int .i64 x ∧ (Lit.int .i64 x).wf = true := fun i hi => field_int Tryz.underlying3 (g1 i hi 2 _ rfl)
  have t1_3 : ∀ i, i < len1 → ∃ x : Int, V1 i 3 = .int .i64 x ∧ (Lit.int .i64 x).wf = true := fun i hi => field_int Tryz.underlying3 (g1 i hi 3 _ rfl)
  have t1_4 : ∀ i, i < len1 → ∃ x : Int, V1 i 4 = .int .u64 x ∧ (Lit.int .u64 x).wf = true := fun i hi => field_int Tryz.underlying23 (g1 i hi 4 _ rfl)
  have t1_5 : ∀ i, i < len1 → ∃ x : Int, V1 i 5 = .int .u64 x ∧ (Lit.int .u64 x).wf = true := fun i hi => field_int Tryz.underlying23 (g1 i hi 5 _ rfl)
  have t1_6 : ∀ i, i < len1 → ∃ x : ByteArray, V1 i 6 = .string x ∧ x.size ≤ maxLen := fun i hi => field_string Tryz.underlying9 (g1 i hi 6 _ rfl)
  clear hA0 hval0 hsz0 hsz
  refine (spacePlays_walk W a0 w0 a1 len1 cap1 V1 s1 t1_0 t1_1 t1_2 t1_3 t1_4 t1_5 t1_6 y1).mono fun e W' ⟨he, bel⟩ => ?_
  subst he
  exact ⟨_, rfl, _, _, _, [], _, [], hW', trodAll_mk1 (shut_bool Tryz.underlying4 _), (trodAll_cons_mk (shut_int Tryz.underlying3 w0) (trodAll_cons_mk (Below.trod laidOut (by kernel_rfl) (of_decide_eq_true (by kernel_rfl)) k1 bel lt1) trodAll_mk0)), rfl, bel.frame _, fun h => by cases h⟩
theorem over : Rows.spacePlaysRow.holds Tryz.pinned (OpenSpec.ofChange Rows.spacePlaysSpec) :=
  OpenClaim.holds_of_wide 4 Tryz.f4 rfl rfl rfl rfl rfl rfl rfl ⟨rfl, rfl, rfl, rfl, rfl⟩ rfl rfl rfl rfl rfl (by kernel_rfl) Tryz.func4 (by kernel_rfl)
    (of_decide_eq_true (by kernel_rfl)) (by unfold Func.isWrapper; first | (rw [if_pos (by decide +kernel)]; kernel_rfl) | (rw [if_neg (by decide +kernel)]; exact ⟨rfl, rfl⟩))
    (fun os started H enc _ => lifted os started H enc)
theorem proved : Rows.SpacePlaysSaid := over
end Go.Proofs.YtodjmfmenfncdaaGreat.spacePlays
namespace Go.Proofs.YtodjmfmenfncdaaGreat
/-- the statement SpacePlays -/
theorem spacePlays_holds : Rows.SpacePlaysSaid := spacePlays.proved
#print axioms spacePlays_holds
end Go.Proofs.YtodjmfmenfncdaaGreat
