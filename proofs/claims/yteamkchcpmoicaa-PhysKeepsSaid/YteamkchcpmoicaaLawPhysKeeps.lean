/-
  The row of the statement PhysKeeps: for every input the law returns true; out of its walk.
-/
import Derived.Test.YteamkchcpmoicaaWalkPhysKeeps
import Derived.Test.YteamkchcpmoicaaOpen
import Derived.Test.YteamkchcpmoicaaOpenS
import Derived.Lib.SmallJoins
namespace Go.Proofs.Yteamkchcpmoicaa.physKeeps
open Go.ChangeShapes Go.WideShapes Go.ChangeAt Go.RowKit Go.Deep
open Go.ChangeMaps (open_string shut_string)
set_option linter.unusedVariables false
theorem own : ownKnob Try.prog.godebug = none := by kernel_rfl
theorem laidOut : laidOutB Try.prog = true := by kernel_rfl
set_option maxRecDepth 100000 in
theorem lifted (os : Os) (started : os.Started) (H : Type) (enc : TypeId × Value → H) :
    ReturnsInHanded {} Try.checked os 6 .any (Rows.physKeepsSpec.pre6 enc Try.prog Try.f6 Rows.physKeepsRow.domain false) (Rows.physKeepsSpec.post enc Try.prog Try.f6 false true false false) := by
  refine returnsInHanded_of_change_sized (C := Try.checked) own started (by kernel_rfl) Try.func6
    (ChangeSpec.witness6 (enc := enc) (C := Try.checked) false ⟨#[], #[.slice none 0 0, .agg #[.int .i64 0, .int .i64 0, .int .i64 0, .int .u64 0, .int .u64 0, .string ByteArray.empty], .int .u64 0], []⟩ 8 (by kernel_rfl) (by kernel_rfl) (by kernel_rfl) (by kernel_rfl)) ?_
  intro W base args ds gs before hval0 hW hcnd hsz0 _
  have hsz : (DataW.weightsEach Try.prog (Try.f6.params.toList ++ Rows.physKeepsSpec.plain.varTypes Try.prog) (ds ++ gs)).all (· ≤ reachBytes) = true := hsz0
  have hval : ∀ (j : Nat) t v, Try.f6.params[j]? = some t → args[j]? = some v → Value.okWide Try.prog W .any base t v := hval0
  have hW' := hW
  obtain ⟨p, q, hA0, hV, rfl, hfz, hnd⟩ := hW
  have hA : DataW.TrodAll enc Try.prog W 0 (fun _ => true) true Try.f6.params.toList args.toList ds p := hA0
  rw [Try.params6] at hA hval hsz
  obtain ⟨v0, vs0, d0, ds0, p0, q0, hargs, rfl, rfl, h0, r0⟩ := trodAll_cons hA
  obtain ⟨v1, vs1, d1, ds1, p1, q1, rfl, rfl, rfl, h1, r1⟩ := trodAll_cons r0
  obtain ⟨v2, vs2, d2, ds2, p2, q2, rfl, rfl, rfl, h2, r2⟩ := trodAll_cons r1
  obtain ⟨rfl, rfl, rfl⟩ := trodAll_nil r2
  obtain rfl : args = #[v0, v1, v2] := by cases args; simp_all
  obtain ⟨rfl, rfl⟩ := trodVars_none hV
  obtain ⟨a0, len0, cap0, rfl⟩ := okWide_slice Try.underlying45 (hval 0 45 v0 rfl rfl)
  have k0 := h0
  have lt0 : ∀ x ∈ p0, x.block < W.heap.size := by obtain ⟨m, hm⟩ := k0; exact DataW.trod_lt m _ _ _ hm
  have y0 : len0 * Try.prog.bytesOf 47 ≤ 140737488351232 := open_slice_len Try.underlying45 hsz (k := 0) rfl rfl rfl h0
  obtain ⟨V0, s0, g0⟩ := open_srow Try.underlying45 (fs := _) Try.underlying47 (by kernel_rfl) (by kernel_rfl) (by decide) h0
  have t0_0 : ∀ i, i < len0 → ∃ x : Int, V0 i 0 = .int .i64 x ∧ (Lit.int .i64 x).wf = true := fun i hi => field_int Try.underlying3 (g0 i hi 0 _ rfl)
  have t0_1 : ∀ i, i < len0 → ∃ x : Int, V0 i 1 = .int .i64 x ∧ (Lit.int .i64 x).wf = true := fun i hi => field_int Try.underlying3 (g0 i hi 1 _ rfl)
  have t0_2 : ∀ i, i < len0 → ∃ x : Int, V0 i 2 = .int .i64 x ∧ (Lit.int .i64 x).wf = true := fun i hi => field_int Try.underlying3 (g0 i hi 2 _ rfl)
  have t0_3 : ∀ i, i < len0 → ∃ x : Int, V0 i 3 = .int .u64 x ∧ (Lit.int .u64 x).wf = true := fun i hi => field_int Try.underlying32 (g0 i hi 3 _ rfl)
  have t0_4 : ∀ i, i < len0 → ∃ x : Int, V0 i 4 = .int .u64 x ∧ (Lit.int .u64 x).wf = true := fun i hi => field_int Try.underlying32 (g0 i hi 4 _ rfl)
  have t0_5 : ∀ i, i < len0 → ∃ x : ByteArray, V0 i 5 = .string x ∧ x.size ≤ maxLen := fun i hi => field_string Try.underlying9 (g0 i hi 5 _ rfl)
  have k1 := h1
  have lt1 : ∀ x ∈ p1, x.block < W.heap.size := by obtain ⟨m, hm⟩ := k1; exact DataW.trod_lt m _ _ _ hm
  have hv1 := (hval 1 47 v1 rfl rfl)
  obtain ⟨cs1, rfl, z1, g1⟩ := open_agg Try.underlying47 (by kernel_rfl) (by kernel_rfl) hv1 h1
  obtain ⟨l1⟩ := cs1
  rcases l1 with _ | ⟨c1_0, l1⟩
  · simp at z1
  rcases l1 with _ | ⟨c1_1, l1⟩
  · simp at z1
  rcases l1 with _ | ⟨c1_2, l1⟩
  · simp at z1
  rcases l1 with _ | ⟨c1_3, l1⟩
  · simp at z1
  rcases l1 with _ | ⟨c1_4, l1⟩
  · simp at z1
  rcases l1 with _ | ⟨c1_5, l1⟩
  · simp at z1
  obtain rfl : l1 = [] := by cases l1 with | nil => rfl | cons _ _ => simp at z1
  obtain ⟨a1_0, e1_0, w1_0⟩ : ∃ x : Int, c1_0 = .int .i64 x ∧ (Lit.int .i64 x).wf = true := field_int Try.underlying3 (g1 0 _ rfl)
  subst e1_0
  obtain ⟨a1_1, e1_1, w1_1⟩ : ∃ x : Int, c1_1 = .int .i64 x ∧ (Lit.int .i64 x).wf = true := field_int Try.underlying3 (g1 1 _ rfl)
  subst e1_1
  obtain ⟨a1_2, e1_2, w1_2⟩ : ∃ x : Int, c1_2 = .int .i64 x ∧ (Lit.int .i64 x).wf = true := field_int Try.underlying3 (g1 2 _ rfl)
  subst e1_2
  obtain ⟨a1_3, e1_3, w1_3⟩ : ∃ x : Int, c1_3 = .int .u64 x ∧ (Lit.int .u64 x).wf = true := field_int Try.underlying32 (g1 3 _ rfl)
  subst e1_3
  obtain ⟨a1_4, e1_4, w1_4⟩ : ∃ x : Int, c1_4 = .int .u64 x ∧ (Lit.int .u64 x).wf = true := field_int Try.underlying32 (g1 4 _ rfl)
  subst e1_4
  obtain ⟨a1_5, e1_5, w1_5⟩ : ∃ x : ByteArray, c1_5 = .string x ∧ x.size ≤ maxLen := field_string Try.underlying9 (g1 5 _ rfl)
  subst e1_5
  obtain ⟨a2, rfl, rfl, rfl, w2⟩ := open_int Try.underlying32 (hval 2 32 v2 rfl rfl) h2
  clear hA0 hval0 hsz0 hsz
  refine (physKeeps_walk W a0 len0 cap0 V0 s0 t0_0 t0_1 t0_2 t0_3 t0_4 t0_5 y0 a1_0 w1_0 a1_1 w1_1 a1_2 w1_2 a1_3 w1_3 a1_4 w1_4 a1_5 w1_5 a2 w2).mono fun e W' ⟨he, bel⟩ => ?_
  subst he
  exact ⟨_, rfl, _, _, _, [], _, [], hW', trodAll_mk1 (shut_bool Try.underlying4 _), (trodAll_cons_mk (Below.trod laidOut (by kernel_rfl) (of_decide_eq_true (by kernel_rfl)) k0 bel lt0) (trodAll_cons_mk (Below.trod laidOut (by kernel_rfl) (of_decide_eq_true (by kernel_rfl)) k1 bel lt1) (trodAll_cons_mk (shut_int Try.underlying32 w2) trodAll_mk0))), rfl, bel.frame _, fun h => by cases h⟩
theorem over : Rows.physKeepsRow.holds Try.pinned (OpenSpec.ofChange Rows.physKeepsSpec) :=
  OpenClaim.holds_of_wide 6 Try.f6 rfl rfl rfl rfl rfl rfl rfl ⟨rfl, rfl, rfl, rfl, rfl⟩ rfl rfl rfl rfl rfl (by kernel_rfl) Try.func6 (by kernel_rfl)
    (of_decide_eq_true (by kernel_rfl)) (by unfold Func.isWrapper; first | (rw [if_pos (by decide +kernel)]; kernel_rfl) | (rw [if_neg (by decide +kernel)]; exact ⟨rfl, rfl⟩))
    (fun os started H enc _ => lifted os started H enc)
theorem proved : Rows.PhysKeepsSaid := over
end Go.Proofs.Yteamkchcpmoicaa.physKeeps
namespace Go.Proofs.Yteamkchcpmoicaa
/-- the statement PhysKeeps -/
theorem physKeeps_holds : Rows.PhysKeepsSaid := physKeeps.proved
#print axioms physKeeps_holds
end Go.Proofs.Yteamkchcpmoicaa
