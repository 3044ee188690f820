/-
  The row of the statement SpaceApart: for every input the law returns true; out of its walk.
-/
import Derived.Test.YtodjmfmenfncdaaGreatQWalkSpaceApart
import Derived.Test.YtodjmfmenfncdaaGreatOpen
import Derived.Test.YtodjmfmenfncdaaGreatOpenS
import Derived.Lib.SmallJoins
namespace Go.Proofs.YtodjmfmenfncdaaGreat.spaceApart
open Go.ChangeShapes Go.WideShapes Go.ChangeAt Go.RowKit Go.Deep
open Go.ChangeMaps (open_string shut_string)
set_option linter.unusedVariables false
theorem own : ownKnob Tryz.prog.godebug = none := by kernel_rfl
theorem laidOut : laidOutB Tryz.prog = true := by kernel_rfl
set_option maxRecDepth 100000 in
theorem lifted (os : Os) (started : os.Started) (H : Type) (enc : TypeId × Value → H) :
    ReturnsInHanded {} Tryz.checked os 5 .any (Rows.spaceApartSpec.pre6 enc Tryz.prog Tryz.f5 Rows.spaceApartRow.domain false) (Rows.spaceApartSpec.post enc Tryz.prog Tryz.f5 false true false false) := by
  refine returnsInHanded_of_change_sized (C := Tryz.checked) own started (by kernel_rfl) Tryz.func5
    (ChangeSpec.witness6 (enc := enc) (C := Tryz.checked) false ⟨#[], #[.agg #[.slice none 0 0, .int .i64 0, .int .u64 0, .string ByteArray.empty]], []⟩ 8 (by kernel_rfl) (by kernel_rfl) (by kernel_rfl) (by kernel_rfl)) ?_
  intro W base args ds gs before hval0 hW hcnd hsz0 _
  have hsz : (DataW.weightsEach Tryz.prog (Tryz.f5.params.toList ++ Rows.spaceApartSpec.plain.varTypes Tryz.prog) (ds ++ gs)).all (· ≤ reachBytes) = true := hsz0
  have hval : ∀ (j : Nat) t v, Tryz.f5.params[j]? = some t → args[j]? = some v → Value.okWide Tryz.prog W .any base t v := hval0
  have hW' := hW
  obtain ⟨p, q, hA0, hV, rfl, hfz, hnd⟩ := hW
  have hA : DataW.TrodAll enc Tryz.prog W 0 (fun _ => true) true Tryz.f5.params.toList args.toList ds p := hA0
  rw [Tryz.params5] at hA hval hsz
  obtain ⟨v0, vs0, d0, ds0, p0, q0, hargs, rfl, rfl, h0, r0⟩ := trodAll_cons hA
  obtain ⟨rfl, rfl, rfl⟩ := trodAll_nil r0
  obtain rfl : args = #[v0] := by cases args; simp_all
  obtain ⟨rfl, rfl⟩ := trodVars_none hV
  have k0 := h0
  have lt0 : ∀ x ∈ p0, x.block < W.heap.size := by obtain ⟨m, hm⟩ := k0; exact DataW.trod_lt m _ _ _ hm
  have hv0 := (hval 0 55 v0 rfl rfl)
  obtain ⟨cs0, rfl, z0, g0⟩ := open_agg Tryz.underlying55 (by kernel_rfl) (by kernel_rfl) hv0 h0
  obtain ⟨l0⟩ := cs0
  rcases l0 with _ | ⟨c0_0, l0⟩
  · simp at z0
  rcases l0 with _ | ⟨c0_1, l0⟩
  · simp at z0
  rcases l0 with _ | ⟨c0_2, l0⟩
  · simp at z0
  rcases l0 with _ | ⟨c0_3, l0⟩
  · simp at z0
  obtain rfl : l0 = [] := by cases l0 with | nil => rfl | cons _ _ => simp at z0
  obtain ⟨yy0_0, n0_0, q0_0⟩ := g0 0 _ rfl
  obtain ⟨a0_0, len0_0, cap0_0, e0_0⟩ := Go.Joins.slice_form Tryz.underlying22 q0_0
  obtain rfl : c0_0 = .slice a0_0 len0_0 cap0_0 := by simpa using e0_0
  have y0_0 : len0_0 ≤ 9223372036854775807 := agg_slice_len (ts := [22, 3, 23, 9]) Tryz.underlying55 (by kernel_rfl) hv0 (j := 0) rfl rfl Tryz.underlying22
  obtain ⟨V0_0, s0_0, g0_0⟩ := open_srow Tryz.underlying22 (fs := _) Tryz.underlying74 (by kernel_rfl) (by kernel_rfl) (by decide) (⟨_, q0_0⟩ : DataW.Trod _ _ _ _ _ _ _ (.slice a0_0 len0_0 cap0_0) _ _)
  have t0_0_0 : ∀ i, i < len0_0 → ∃ x : Int, V0_0 i 0 = .int .i64 x ∧ (Lit.int .i64 x).wf = true := fun i hi => field_int Tryz.underlying3 (g0_0 i hi 0 _ rfl)
  have t0_0_1 : ∀ i, i < len0_0 → ∃ x : Int, V0_0 i 1 = .int .i64 x ∧ (Lit.int .i64 x).wf = true := fun i hi => field_int Tryz.underlying3 (g0_0 i hi 1 _ rfl)
  have t0_0_2 : ∀ i, i < len0_0 → ∃ x : Int, V0_0 i 2 = .int .i64 x ∧ (Lit.int .i64 x).wf = true := fun i hi => field_int Tryz.underlying3 (g0_0 i hi 2 _ rfl)
  have t0_0_3 : ∀ i, i < len0_0 → ∃ x : Int, V0_0 i 3 = .int .i64 x ∧ (Lit.int .i64 x).wf = true := fun i hi => field_int Tryz.underlying3 (g0_0 i hi 3 _ rfl)
  have t0_0_4 : ∀ i, i < len0_0 → ∃ x : Int, V0_0 i 4 = .int .u64 x ∧ (Lit.int .u64 x).wf = true := fun i hi => field_int Tryz.underlying23 (g0_0 i hi 4 _ rfl)
  have t0_0_5 : ∀ i, i < len0_0 → ∃ x : Int, V0_0 i 5 = .int .u64 x ∧ (Lit.int .u64 x).wf = true := fun i hi => field_int Tryz.underlying23 (g0_0 i hi 5 _ rfl)
  have t0_0_6 : ∀ i, i < len0_0 → ∃ x : ByteArray, V0_0 i 6 = .string x ∧ x.size ≤ maxLen := fun i hi => field_string Tryz.underlying9 (g0_0 i hi 6 _ rfl)
  obtain ⟨a0_1, e0_1, w0_1⟩ : ∃ x : Int, c0_1 = .int .i64 x ∧ (Lit.int .i64 x).wf = true := field_int Tryz.underlying3 (g0 1 _ rfl)
  subst e0_1
  obtain ⟨a0_2, e0_2, w0_2⟩ : ∃ x : Int, c0_2 = .int .u64 x ∧ (Lit.int .u64 x).wf = true := field_int Tryz.underlying23 (g0 2 _ rfl)
  subst e0_2
  obtain ⟨a0_3, e0_3, w0_3⟩ : ∃ x : ByteArray, c0_3 = .string x ∧ x.size ≤ maxLen := field_string Tryz.underlying9 (g0 3 _ rfl)
  subst e0_3
  clear hA0 hval0 hsz0 hsz
  refine (spaceApart_walk W a0_0 len0_0 cap0_0 V0_0 s0_0 t0_0_0 t0_0_1 t0_0_2 t0_0_3 t0_0_4 t0_0_5 t0_0_6 y0_0 a0_1 w0_1 a0_2 w0_2 a0_3 w0_3).mono fun e W' ⟨he, bel⟩ => ?_
  subst he
  exact ⟨_, rfl, _, _, _, [], _, [], hW', trodAll_mk1 (shut_bool Tryz.underlying4 _), (trodAll_cons_mk (Below.trod laidOut (by kernel_rfl) (of_decide_eq_true (by kernel_rfl)) k0 bel lt0) trodAll_mk0), rfl, bel.frame _, fun h => by cases h⟩
theorem over : Rows.spaceApartRow.holds Tryz.pinned (OpenSpec.ofChange Rows.spaceApartSpec) :=
  OpenClaim.holds_of_wide 5 Tryz.f5 rfl rfl rfl rfl rfl rfl rfl ⟨rfl, rfl, rfl, rfl, rfl⟩ rfl rfl rfl rfl rfl (by kernel_rfl) Tryz.func5 (by kernel_rfl)
    (of_decide_eq_true (by kernel_rfl)) (by unfold Func.isWrapper; first | (rw [if_pos (by decide +kernel)]; kernel_rfl) | (rw [if_neg (by decide +kernel)]; exact ⟨rfl, rfl⟩))
    (fun os started H enc _ => lifted os started H enc)
theorem proved : Rows.SpaceApartSaid := over
end Go.Proofs.YtodjmfmenfncdaaGreat.spaceApart
namespace Go.Proofs.YtodjmfmenfncdaaGreat
/-- the statement SpaceApart -/
theorem spaceApart_holds : Rows.SpaceApartSaid := spaceApart.proved
#print axioms spaceApart_holds
end Go.Proofs.YtodjmfmenfncdaaGreat
