/-
  The walk of the statement SpaceBack: true, for every input.
-/
import Derived.Test.YtodjmfmenfncdaaQSpMapAny
import Derived.Test.YtodjmfmenfncdaaOpenS
namespace Go.Proofs.Ytodjmfmenfncdaa
open Go.RowKit

theorem hasB_off {F : Nat} {s : PS} {R : Roles} (g : SG F s R) {r to : Nat} (hne : to ≠ r) : hasB F (offR R r) to = hasB F R to := by
  obtain ⟨g', hon⟩ := good_off g r
  funext l i
  apply Bool.eq_iff_iff.2
  rw [hasB_iff g'.wf.lt, hasB_iff g.wf.lt]
  constructor
  · rintro ⟨f, hf⟩
    unfold offR at hf
    by_cases e : ownR R r f = true
    · rw [if_pos e] at hf; cases hf
    · rw [if_neg e] at hf; exact ⟨f, hf⟩
  · rintro ⟨f, hf⟩
    exact ⟨f, hon f _ hf hne⟩
theorem offR_own {R : Roles} {r f : Nat} (h : ownR R r f = true) : offR R r f = none := by unfold offR; rw [if_pos h]
theorem good_new_cnt {F : Nat} {s : PS} {R : Roles} (g : SG F s R) (hc : 0 < s.left F) : (s.take F).left F + cntN (hasB F (setR R (s.top F) (s.top F, 3, 0)) (s.top F)) = s.left F := by
  obtain ⟨gr, _, hno, _⟩ := new_grow g.wf hc
  have h := gr.cnt
  have hz : hasB F R (s.top F) = fun _ _ => false := by funext l i; exact hno l i
  rw [hz, cntN_none] at h
  exact h
def b0 : PS := ⟨frAll 0 60, fun _ => 0⟩
theorem b0_left : b0.left 60 = 60 := by decide +kernel
theorem b0_top : b0.top 60 = 0 := by decide +kernel
/-- between the pages -/
structure BackS (s : PS) (R : Roles) : Prop where
  g : SG 60 s R
  r : R 0 = some (0, 3, 0)
  n : s.left 60 + cntN (hasB 60 R 0) = 60
theorem back_start : ∃ R, BackS (b0.take 60) R := by
  have g0 : SG 60 b0 (fun _ => none) := good_start 60 _
  have hc : 0 < b0.left 60 := by rw [b0_left]; decide
  obtain ⟨g1, r1, _⟩ := good_new g0 hc
  have n1 := good_new_cnt g0 hc
  rw [b0_left] at n1
  rw [b0_top] at g1 r1 n1
  exact ⟨_, g1, r1, n1⟩
theorem back_map {s : PS} {R : Roles} (h : BackS s R) (page : Int) (bits : Nat) {s' : PS} {e : Int} (hs : mapR 60 s 0 page bits = (s', e)) : ∃ R', BackS s' R' := by
  obtain ⟨R', g, sub, n⟩ := good_mapR (by decide) h.g h.r hs
  exact ⟨R', g, sub _ _ h.r, by rw [n, h.n]⟩
def BackAt (B q p : Nat) (wr : World) : Prop := ∃ s R, BackS s R ∧ SP B wr q p 60 s
/-- a copy, and both given back -/
theorem back_copy {s : PS} {R : Roles} (h : BackS s R) (hc : (visT s.V 2 0 0 32).length + 1 ≤ s.left 60) : ∃ s' R' to, cpAll 60 (s.top 60) (s.take 60) (visT (s.take 60).V 2 0 0 32) = s' ∧ s.top 60 = to ∧ SG 60 s' R' ∧ R' 0 = some (0, 3, 0) ∧ R' to = some (to, 3, 0) ∧ s'.left 60 + 60 = 2 * s.left 60 ∧
    SG 60 (s'.off R' 0) (offR R' 0) ∧ offR R' 0 to = some (to, 3, 0) ∧ SG 60 ((s'.off R' 0).off (offR R' 0) to) (offR (offR R' 0) to) ∧ ((s'.off R' 0).off (offR R' 0) to).left 60 = 60 ∧ ((s'.off R' 0).off (offR R' 0) to).Fr to = true ∧ to < 60 := by
  obtain ⟨R', g, r0, rt, ne, c1, c2, n, _⟩ := good_copy (by decide) h.g h.r hc rfl
  generalize cpAll 60 (s.top 60) (s.take 60) (visT (s.take 60).V 2 0 0 32) = s' at *
  generalize s.top 60 = to at *
  obtain ⟨g2, hon⟩ := good_off g 0
  have ho := hon _ _ rt (Ne.symm ne)
  obtain ⟨g3, _⟩ := good_off g2 to
  have l1 := off_cntN g.wf 0
  have l2 := off_cntN g2.wf to
  rw [hasB_off g (Ne.symm ne), c1] at l2
  rw [c2] at l1
  have hn := h.n
  refine ⟨s', R', to, rfl, rfl, g, r0, rt, by omega, g2, ho, g3, by omega, ?_, g.wf.lt _ _ rt⟩
  refine (g3.wf.free to).2 ⟨g.wf.lt _ _ rt, ?_⟩
  exact offR_own (ownR_iff.2 ⟨3, 0, ho⟩)
theorem back_full {s : PS} {R : Roles} (h : BackS s R) (hc : ¬ (visT s.V 2 0 0 32).length + 1 ≤ s.left 60) : s.left 60 < 60 - s.left 60 ∧ (s.off R 0).left 60 = 60 := by
  have hv := vis_count h.g.wf h.r
  have l1 := off_cntN h.g.wf 0
  have hn := h.n
  exact ⟨by omega, by omega⟩
theorem free_none (F to : Nat) (Fr : Nat → Bool) (h : Fr to = true) : (decide (((0 : Nat) : Int) ≤ (to : Int) ∧ (to : Int) < (F : Int)) && !Fr ((to : Int)).toNat) = false := by
  rw [Int.toNat_natCast, h]; simp
theorem back_wraps (n : Nat) (h : n ≤ 60) : wrap64 (60 - (n : Int)) = 60 - (n : Int) ∧ IntKind.i64.wrap (60 - (n : Int)) = 60 - (n : Int) ∧ wrap64 (2 * (n : Int)) = 2 * (n : Int) ∧ IntKind.i64.wrap (2 * (n : Int)) = 2 * (n : Int) ∧ wrap64 (2 * (n : Int) - 60) = 2 * (n : Int) - 60 ∧ IntKind.i64.wrap (2 * (n : Int) - 60) = 2 * (n : Int) - 60 := by
  refine ⟨?_, i64_wrap_eq rfl (by omega), ?_, i64_wrap_eq rfl (by omega), ?_, i64_wrap_eq rfl (by omega)⟩
  all_goals (unfold wrap64; omega)

set_option maxRecDepth 100000 in
set_option maxHeartbeats 1600000 in
theorem spaceBack_walk (w : World) (a0 : Option Addr) (len0 cap0 : Nat) (V0 : Nat → Nat → Value) (s0 : SRow w a0 len0 1 V0) (t0 : ∀ i, i < len0 → ∃ x : Int, V0 i 0 = .int .i64 x ∧ (Lit.int .i64 x).wf = true) (_y0 : len0 * Try.prog.bytesOf 3 ≤ 140737488351232) (bts : Int) (_w1 : (Lit.int .u64 bts).wf = true) :
    Calls Try.prog 8 #[.slice a0 len0 cap0, .int .u64 bts] w fun e w' => e = .returned (.bool true) ∧ Below w.heap.size w w' := by
  obtain ⟨bits, rfl, hb64⟩ := u64_nat' _w1
  have KS := Lib.hid (sp_shown w)
  have KB := Lib.hid (fun (W : World) (h : w.heap.size ≤ W.heap.size) => sp_both w.heap.size W h 60 (by omega) (by omega))
  have ADV := Lib.hid (fun (W W' : World) (h : Below w.heap.size w W) (c : Chg (fun k => ¬ k < w.heap.size) W W') => h.trans (c.below h.size (fun _ h => Nat.le_of_not_lt h)))
  have KL := Lib.hid (fun (W : World) (q p : Nat) (s : PS) (H : SP w.heap.size W q p 60 s) => f_leftS H)
  have KN := fun (W : World) (q p : Nat) (H : SP w.heap.size W q p 60 b0) => sp_new H (by decide) (show 0 < b0.left 60 by rw [b0_left]; decide)
  rw [b0_top, show ((0 : Nat) : Int) = 0 from rfl] at KN
  have KL0 := fun (W : World) (q p : Nat) (H : SP w.heap.size W q p 60 b0) => f_leftS H
  rw [b0_left, show ((60 : Nat) : Int) = 60 from rfl] at KL0
  have ST := Lib.hid back_start
  have KM := Lib.hid (fun (W : World) (q p : Nat) (s : PS) (R : Roles) (page : Int) (s' : PS) (e : Int) (H : SP w.heap.size W q p 60 s) (h : BackS s R) (hs : mapR 60 s 0 page bits = (s', e)) => sp_map_any H (by decide) h.g.wf 0 page bits h.r hb64 hs)
  have KBM := Lib.hid (fun (s : PS) (R : Roles) (page : Int) (s' : PS) (e : Int) (h : BackS s R) (hs : mapR 60 s 0 page bits = (s', e)) => back_map h page bits hs)
  have S0 := Lib.hid s0; have T0 := Lib.hid t0
  have KN := Lib.hid KN; have KL0 := Lib.hid KL0
  clear s0 t0 _y0 hb64 _w1
  go_enter Try.func8, Try.ntmps8
  go_wp2_with fail
  refine KS.out.mono ?_
  rintro e w1 ⟨rfl, b1⟩
  have B1 := Lib.hid b1; clear b1
  go_wp2_with fail
  refine (KB.out w1 B1.out.size).mono ?_
  rintro e w2 ⟨q, p, r, rfl, m2, b2⟩
  have M2 := Lib.hid (show SP w.heap.size w2 q p 60 b0 from m2); have B2 := Lib.hid (B1.out.trans b2); clear m2 b2
  go_wp2_with fail
  refine (KL0.out w2 q p M2.out).mono ?_
  rintro e w' ⟨rfl, rfl⟩
  go_wp2_with fail
  refine (KN.out w2 q p M2.out).mono ?_
  rintro e w3 ⟨rfl, m3, c3⟩
  obtain ⟨R1, h1⟩ := ST.out
  have M3 := Lib.hid (show BackAt w.heap.size q p w3 ∧ Below w.heap.size w w3 from ⟨⟨_, R1, h1, m3⟩, ADV.out _ _ B2.out c3⟩); clear m3 c3 h1
  go_wp2_with fail
  go_loopw [12] (fun i wr => ∃ k : Nat, k ≤ 40 ∧ k ≤ len0 ∧ i = .int .i64 k ∧ Hid (BackAt w.heap.size q p wr ∧ Below w.heap.size w wr)) (fun i _ => 40 - (intOf i).toNat)
  case atStart => exact ⟨0, Nat.zero_le _, Nat.zero_le _, rfl, M3⟩
  case round =>
    obtain ⟨k, hk, hk2, rfl, HR⟩ := hrel
    obtain ⟨s, R, hs, hm⟩ := HR.out.1
    have HS := Lib.hid hs; have HM := Lib.hid hm
    clear hs hm
    by_cases hlt : k < len0 ∧ k < 40
    · obtain ⟨ab, off, rfl, hab, hcell⟩ : ∃ ab off, a0 = some ⟨ab, off, none⟩ ∧ ab < w.heap.size ∧ ∀ i, i < len0 → ∀ j, j < 1 → w.cell? ⟨ab, off + (i * 1 + j), none⟩ = some (V0 i j) := by
        rcases S0.out with h | h
        · omega
        · exact h
      obtain ⟨x, hx, _⟩ := T0.out k hlt.1
      have hc := hcell k hlt.1 0 (by omega)
      rw [hx, Nat.mul_one, Nat.add_zero] at hc
      have hc2 : wr.cell? ⟨ab, off + k, none⟩ = some (.int .i64 x) := by rw [HR.out.2.cell hab]; exact hc
      have d1 : decide ((k : Int) < (len0 : Int)) = true := decide_eq_true (by omega)
      have d2 : decide ((k : Int) < (40 : Int)) = true := decide_eq_true (by omega)
      have k0 : (0 : Int) ≤ (k : Int) := by omega
      have k1 : (k : Int) < (len0 : Int) := by omega
      obtain ⟨s', e, hs'⟩ : ∃ s' e, mapR 60 s 0 x bits = (s', e) := ⟨_, _, rfl⟩
      have KM1 := Lib.hid (KM.out wr q p s R x s' e HM.out HS.out hs')
      obtain ⟨R', hb⟩ := KBM.out s R x s' e HS.out hs'
      have HB := Lib.hid hb
      clear hcell hc hx hs' hb
      go_wp2_with fail
      refine KM1.out.mono ?_
      rintro e1 w4 ⟨rfl, m4, c4⟩
      have M4 := Lib.hid (show BackAt w.heap.size q p w4 ∧ Below w.heap.size w w4 from ⟨⟨s', R', HB.out, m4⟩, ADV.out _ _ HR.out.2 c4⟩); clear m4 c4
      go_wp2_with fail
      go_roundw
      case rel => exact ⟨k + 1, by omega, by omega, by go_num, M4⟩
      case measure => simp [intOf]; omega
    · have hd : (decide ((k : Int) < (len0 : Int)) = false ∧ ¬ k < len0) ∨ (decide ((k : Int) < (len0 : Int)) = true ∧ decide ((k : Int) < (40 : Int)) = false ∧ k < len0 ∧ ¬ k < 40) := by
        by_cases h : k < len0
        · exact .inr ⟨decide_eq_true (by omega), decide_eq_false (by omega), h, by omega⟩
        · exact .inl ⟨decide_eq_false (by omega), h⟩
      clear hlt
      have KLs := Lib.hid (KL.out wr q p s HM.out)
      by_cases hc : (visT s.V 2 0 0 32).length + 1 ≤ s.left 60
      · obtain ⟨s', R', to, e1, e2, g1, r1, rt, n1, g2, r2, g3, n3, ft, htl⟩ := back_copy HS.out hc
        have KC := sp_copy_yes HM.out (by decide) HS.out.g.wf HS.out.g.full 0 HS.out.r hc (e1.trans (ps_eta s'))
        rw [e2] at KC
        have KF := fun (W : World) (H : SP w.heap.size W q p 60 s') => sp_free H (by decide) g1.wf 0 r1
        have KF2 := fun (W : World) (H : SP w.heap.size W q p 60 (s'.off R' 0)) => sp_free H (by decide) g2.wf to r2
        generalize (s'.off R' 0).off (offR R' 0) to = s3 at *
        generalize s'.off R' 0 = s2 at *
        have KF3 := fun (W : World) (H : SP w.heap.size W q p 60 s3) => sp_free_free H (by decide) (to : Int) (free_none 60 to s3.Fr ft)
        have KL3 := fun (W : World) (H : SP w.heap.size W q p 60 s3) => f_leftS H
        have KL1 := fun (W : World) (H : SP w.heap.size W q p 60 s') => f_leftS H
        rw [n3] at KL3
        rw [show ((0 : Nat) : Int) = 0 from rfl] at KC KF
        rw [show ((60 : Nat) : Int) = 60 from rfl] at KL3
        obtain ⟨kk, hkk⟩ : ∃ kk, kk = s.left 60 := ⟨_, rfl⟩
        obtain ⟨jj, hjj⟩ : ∃ jj, jj = s'.left 60 := ⟨_, rfl⟩
        rw [← hkk] at KLs n1
        rw [← hjj] at KL1 n1
        obtain ⟨v1, v2, v3, v4, v5, v6⟩ := back_wraps kk (by have := HS.out.n; rw [← hkk] at this; omega)
        have n2 : 2 * (kk : Int) - 60 = (jj : Int) := by omega
        rw [n2] at v5 v6
        have KC := Lib.hid KC; have KF := Lib.hid KF; have KF2 := Lib.hid KF2; have KF3 := Lib.hid KF3; have KL3 := Lib.hid KL3; have KL1 := Lib.hid KL1
        clear hc hkk hjj e1 e2 g1 r1 rt n1 g2 r2 g3 n3 ft htl v1 v2
        rcases hd with ⟨d1, d3⟩ | ⟨d1, d2, d3, d4⟩
        all_goals
          go_wp2_with fail
          refine KLs.out.mono ?_
          rintro e w' ⟨rfl, rfl⟩
          go_wp2_with fail
          refine KC.out.mono ?_
          rintro e w4 ⟨rfl, m4, c4⟩
          have M4 := Lib.hid (show SP w.heap.size w4 q p 60 s' ∧ Below w.heap.size w w4 from ⟨m4, ADV.out _ _ HR.out.2 c4⟩); clear m4 c4
          have KL4 := Lib.hid (KL1.out w4 M4.out.1)
          have KF4 := Lib.hid (KF.out w4 M4.out.1)
          go_wp2_with fail
          refine KL4.out.mono ?_
          rintro e w' ⟨rfl, rfl⟩
          go_wp2_with fail
          refine KF4.out.mono ?_
          rintro e w5 ⟨rfl, m5, c5⟩
          have M5 := Lib.hid (show SP w.heap.size w5 q p 60 s2 ∧ Below w.heap.size w w5 from ⟨m5, ADV.out _ _ M4.out.2 c5⟩); clear m5 c5
          have KF5 := Lib.hid (KF2.out w5 M5.out.1)
          go_wp2_with fail
          refine KF5.out.mono ?_
          rintro e w6 ⟨rfl, m6, c6⟩
          have M6 := Lib.hid (show SP w.heap.size w6 q p 60 s3 ∧ Below w.heap.size w w6 from ⟨m6, ADV.out _ _ M5.out.2 c6⟩); clear m6 c6
          have KF6 := Lib.hid (KF3.out w6 M6.out.1)
          go_wp2_with fail
          refine KF6.out.mono ?_
          rintro e w7 ⟨rfl, m7, c7⟩
          have M7 := Lib.hid (show SP w.heap.size w7 q p 60 s3 ∧ Below w.heap.size w w7 from ⟨m7, ADV.out _ _ M6.out.2 c7⟩); clear m7 c7
          have KL7 := Lib.hid (KL3.out w7 M7.out.1)
          go_wp2_with fail
          refine KL7.out.mono ?_
          rintro e w' ⟨rfl, rfl⟩
          go_wp2_with fail
          go_ret
          exact ⟨rfl, M7.out.2⟩
      · obtain ⟨n1, n2⟩ := back_full HS.out hc
        have KC := sp_copy_full HM.out (by decide) HS.out.g.wf 0 HS.out.r (by omega)
        have KF := fun (W : World) (H : SP w.heap.size W q p 60 s) => sp_free H (by decide) HS.out.g.wf 0 HS.out.r
        rw [show ((0 : Nat) : Int) = 0 from rfl] at KC KF
        obtain ⟨kk, hkk⟩ : ∃ kk, kk = s.left 60 := ⟨_, rfl⟩
        rw [← hkk] at KLs n1
        obtain ⟨v1, v2, v3, v4, v5, v6⟩ := back_wraps kk (by omega)
        have KLE := fun (W : World) (H : SP w.heap.size W q p 60 (s.off R 0)) => f_leftS H
        rw [n2] at KLE
        have KC := Lib.hid KC; have KF := Lib.hid KF; have KLE := Lib.hid KLE
        have dk : decide ((kk : Int) < 60 - (kk : Int)) = true := decide_eq_true (by omega)
        clear hc n2 hkk v3 v4 v5 v6
        rcases hd with ⟨d1, d3⟩ | ⟨d1, d2, d3, d4⟩
        all_goals
          go_wp2_with fail
          refine KLs.out.mono ?_
          rintro e w' ⟨rfl, rfl⟩
          go_wp2_with fail
          refine KC.out.mono ?_
          rintro e w4 ⟨rfl, m4, c4⟩
          have M4 := Lib.hid (show SP w.heap.size w4 q p 60 s ∧ Below w.heap.size w w4 from ⟨m4, ADV.out _ _ HR.out.2 c4⟩); clear m4 c4
          have KF1 := Lib.hid (KF.out w4 M4.out.1)
          go_wp2_with fail
          refine KF1.out.mono ?_
          rintro e w5 ⟨rfl, m5, c5⟩
          have M5 := Lib.hid (show SP w.heap.size w5 q p 60 (s.off R 0) ∧ Below w.heap.size w w5 from ⟨m5, ADV.out _ _ M4.out.2 c5⟩); clear m5 c5
          have KL5 := Lib.hid (KLE.out w5 M5.out.1)
          go_wp2_with (refine KL5.out.mono ?_; rintro e w' ⟨rfl, rfl⟩)
          go_ret
          exact ⟨rfl, M5.out.2⟩
end Go.Proofs.Ytodjmfmenfncdaa
