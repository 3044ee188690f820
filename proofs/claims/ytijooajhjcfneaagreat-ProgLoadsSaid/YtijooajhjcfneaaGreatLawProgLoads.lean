/-
  The row of the statement ProgLoads: for every input the law returns true; out of its walk.
-/
import Derived.Test.YtijooajhjcfneaaGreatQWalkProgLoads
import Derived.Test.YtijooajhjcfneaaGreatOpen
import Derived.Test.YtijooajhjcfneaaGreatOpenS
import Derived.Lib.SmallJoins
namespace Go.Proofs.YtijooajhjcfneaaGreat.progLoads
open Go.ChangeShapes Go.WideShapes Go.ChangeAt Go.RowKit Go.Deep
open Go.ChangeMaps (open_string shut_string)
set_option linter.unusedVariables false
theorem own : ownKnob Tryz.prog.godebug = none := by kernel_rfl
theorem laidOut : laidOutB Tryz.prog = true := by kernel_rfl
set_option maxRecDepth 100000 in
theorem lifted (os : Os) (started : os.Started) (H : Type) (enc : TypeId × Value → H) :
    ReturnsInHanded {} Tryz.checked os 3 .any (Rows.progLoadsSpec.pre6 enc Tryz.prog Tryz.f3 Rows.progLoadsRow.domain false) (Rows.progLoadsSpec.post enc Tryz.prog Tryz.f3 false true false false) := by
  refine returnsInHanded_of_change_sized (C := Tryz.checked) own started (by kernel_rfl) Tryz.func3
    (ChangeSpec.witness6 (enc := enc) (C := Tryz.checked) false ⟨#[], #[.int .i64 0, .int .i64 0, .agg #[.int .i64 0, .string ByteArray.empty, .string ByteArray.empty, .int .i64 0]], []⟩ 8 (by kernel_rfl) (by kernel_rfl) (by kernel_rfl) (by kernel_rfl)) ?_
  intro W base args ds gs before hval0 hW hcnd hsz0 _
  have hsz : (DataW.weightsEach Tryz.prog (Tryz.f3.params.toList ++ Rows.progLoadsSpec.plain.varTypes Tryz.prog) (ds ++ gs)).all (· ≤ reachBytes) = true := hsz0
  have hval : ∀ (j : Nat) t v, Tryz.f3.params[j]? = some t → args[j]? = some v → Value.okWide Tryz.prog W .any base t v := hval0
  have hW' := hW
  obtain ⟨p, q, hA0, hV, rfl, hfz, hnd⟩ := hW
  have hA : DataW.TrodAll enc Tryz.prog W 0 (fun _ => true) true Tryz.f3.params.toList args.toList ds p := hA0
  rw [Tryz.params3] at hA hval hsz
  obtain ⟨v0, vs0, d0, ds0, p0, q0, hargs, rfl, rfl, h0, r0⟩ := trodAll_cons hA
  obtain ⟨v1, vs1, d1, ds1, p1, q1, rfl, rfl, rfl, h1, r1⟩ := trodAll_cons r0
  obtain ⟨v2, vs2, d2, ds2, p2, q2, rfl, rfl, rfl, h2, r2⟩ := trodAll_cons r1
  obtain ⟨rfl, rfl, rfl⟩ := trodAll_nil r2
  obtain rfl : args = #[v0, v1, v2] := by cases args; simp_all
  obtain ⟨rfl, rfl⟩ := trodVars_none hV
  obtain ⟨a0, rfl, rfl, rfl, w0⟩ := open_int Tryz.underlying3 (hval 0 3 v0 rfl rfl) h0
  obtain ⟨a1, rfl, rfl, rfl, w1⟩ := open_int Tryz.underlying3 (hval 1 3 v1 rfl rfl) h1
  have k2 := h2
  have lt2 : ∀ x ∈ p2, x.block < W.heap.size := by obtain ⟨m, hm⟩ := k2; exact DataW.trod_lt m _ _ _ hm
  have hv2 := (hval 2 23 v2 rfl rfl)
  obtain ⟨cs2, rfl, z2, g2⟩ := open_agg Tryz.underlying23 (by kernel_rfl) (by kernel_rfl) hv2 h2
  obtain ⟨l2⟩ := cs2
  rcases l2 with _ | ⟨c2_0, l2⟩
  · simp at z2
  rcases l2 with _ | ⟨c2_1, l2⟩
  · simp at z2
  rcases l2 with _ | ⟨c2_2, l2⟩
  · simp at z2
  rcases l2 with _ | ⟨c2_3, l2⟩
  · simp at z2
  obtain rfl : l2 = [] := by cases l2 with | nil => rfl | cons _ _ => simp at z2
  obtain ⟨a2_0, e2_0, w2_0⟩ : ∃ x : Int, c2_0 = .int .i64 x ∧ (Lit.int .i64 x).wf = true := field_int Tryz.underlying3 (g2 0 _ rfl)
  subst e2_0
  obtain ⟨a2_1, e2_1, w2_1⟩ : ∃ x : ByteArray, c2_1 = .string x ∧ x.size ≤ maxLen := field_string Tryz.underlying9 (g2 1 _ rfl)
  subst e2_1
  obtain ⟨a2_2, e2_2, w2_2⟩ : ∃ x : ByteArray, c2_2 = .string x ∧ x.size ≤ maxLen := field_string Tryz.underlying9 (g2 2 _ rfl)
  subst e2_2
  obtain ⟨a2_3, e2_3, w2_3⟩ : ∃ x : Int, c2_3 = .int .i64 x ∧ (Lit.int .i64 x).wf = true := field_int Tryz.underlying3 (g2 3 _ rfl)
  subst e2_3
  clear hA0 hval0 hsz0 hsz
  refine (progLoads_walk W a0 w0 a1 w1 a2_0 w2_0 a2_1 w2_1 a2_2 w2_2 a2_3 w2_3).mono fun e W' ⟨he, bel⟩ => ?_
  subst he
  exact ⟨_, rfl, _, _, _, [], _, [], hW', trodAll_mk1 (shut_bool Tryz.underlying4 _), (trodAll_cons_mk (shut_int Tryz.underlying3 w0) (trodAll_cons_mk (shut_int Tryz.underlying3 w1) (trodAll_cons_mk (Below.trod laidOut (by kernel_rfl) (of_decide_eq_true (by kernel_rfl)) k2 bel lt2) trodAll_mk0))), rfl, bel.frame _, fun h => by cases h⟩
theorem over : Rows.progLoadsRow.holds Tryz.pinned (OpenSpec.ofChange Rows.progLoadsSpec) :=
  OpenClaim.holds_of_wide 3 Tryz.f3 rfl rfl rfl rfl rfl rfl rfl ⟨rfl, rfl, rfl, rfl, rfl⟩ rfl rfl rfl rfl rfl (by kernel_rfl) Tryz.func3 (by kernel_rfl)
    (of_decide_eq_true (by kernel_rfl)) (by unfold Func.isWrapper; first | (rw [if_pos (by decide +kernel)]; kernel_rfl) | (rw [if_neg (by decide +kernel)]; exact ⟨rfl, rfl⟩))
    (fun os started H enc _ => lifted os started H enc)
theorem proved : Rows.ProgLoadsSaid := over
end Go.Proofs.YtijooajhjcfneaaGreat.progLoads
namespace Go.Proofs.YtijooajhjcfneaaGreat
/-- the statement ProgLoads -/
theorem progLoads_holds : Rows.ProgLoadsSaid := progLoads.proved
#print axioms progLoads_holds
end Go.Proofs.YtijooajhjcfneaaGreat
