/-
  The walk of the statement SpaceApart: true, for every input.
-/
import Derived.Test.YtodjmfmenfncdaaGreatQFYApart
import Derived.Test.YtodjmfmenfncdaaGreatQWalkSpacePlays
namespace Go.Proofs.YtodjmfmenfncdaaGreat
open Go.RowKit

theorem Tryz.infoStr : (Tryz.prog.info? 9).map (fun i => (i.zero, i.size, i.bytes)) = some (some (.string ByteArray.empty), 1, 16) := by kernel_rfl
/-- the row of what the spaces show -/
def shL (s : PS) (l : List Nat) : List Value := l.map fun x => Value.string ⟨(allL s.V 40 x (pagesL s.V x)).toArray⟩
theorem shL_len (s : PS) (l : List Nat) : (shL s l).length = l.length := List.length_map _
theorem takeN (l : List Nat) (k : Nat) (h : k < l.length) : l.take (k + 1) = l.take k ++ [l.getD k 0] := by
  rw [List.take_add_one, List.getD, List.getElem?_eq_getElem h]
  rfl
theorem fr_getD (L : List (Int × Nat)) (j : Nat) (hj : j < L.length) : (L.map (fun v => v.2 / 1024)).getD j 0 = L[j].2 / 1024 := by rw [List.getD, List.getElem?_map, List.getElem?_eq_getElem hj]; rfl
theorem fs_form (s : PS) (root : Nat) : fsR s.V root = (tabT s.V 2 root 0 32 ++ [root]) ++ (pgV (visT s.V 2 root 0 32)).map (fun v => v.2 / 1024) := rfl
set_option maxRecDepth 100000 in
set_option maxHeartbeats 3200000 in
theorem spaceApart_walk (w : World) (a0 : Option Addr) (len0 cap0 : Nat) (V0 : Nat → Nat → Value) (s0 : SRow w a0 len0 7 V0)
    (t0 : ∀ i, i < len0 → ∃ x : Int, V0 i 0 = .int .i64 x ∧ (Lit.int .i64 x).wf = true) (t1 : ∀ i, i < len0 → ∃ x : Int, V0 i 1 = .int .i64 x ∧ (Lit.int .i64 x).wf = true)
    (t2 : ∀ i, i < len0 → ∃ x : Int, V0 i 2 = .int .i64 x ∧ (Lit.int .i64 x).wf = true) (t3 : ∀ i, i < len0 → ∃ x : Int, V0 i 3 = .int .i64 x ∧ (Lit.int .i64 x).wf = true)
    (t4 : ∀ i, i < len0 → ∃ x : Int, V0 i 4 = .int .u64 x ∧ (Lit.int .u64 x).wf = true) (t5 : ∀ i, i < len0 → ∃ x : Int, V0 i 5 = .int .u64 x ∧ (Lit.int .u64 x).wf = true)
    (t6 : ∀ i, i < len0 → ∃ x : ByteArray, V0 i 6 = .string x ∧ x.size ≤ maxLen)
    (y0 : len0 ≤ 9223372036854775807) (ww : Int) (_w1 : (Lit.int .i64 ww).wf = true) (at0 : Int) (w2 : (Lit.int .u64 at0).wf = true) (str : ByteArray) (_w3 : str.size ≤ maxLen) :
    Calls Tryz.prog 5 #[.agg #[.slice a0 len0 cap0, .int .i64 ww, .int .u64 at0, .string str]] w fun e w' => e = .returned (.bool true) ∧ Below w.heap.size w w' := by
  obtain ⟨at_, rfl, hat64⟩ := u64_nat' w2
  obtain ⟨i0, hi, hz0, hz1, hz2⟩ := info_parts Tryz.infoIn
  obtain ⟨j0, hj, hy0, hy1, hy2⟩ := info_parts Tryz.infoStr
  have KS := Lib.hid (fun W => sp_shown W)
  have KB := fun (W : World) (h : w.heap.size ≤ W.heap.size) => y_both w.heap.size W h 40
  rw [show sizF 40 = 40 from rfl] at KB
  have KB := Lib.hid KB
  have ACT := Lib.hid (fun (W : World) (h : Below w.heap.size w W) => acts_row s0 t0 t1 t2 t3 t4 t5 t6 h)
  clear s0 t0 t1 t2 t3 t4 t5 t6 _w1 w2 _w3 hat64
  have KP := Lib.hid (fun (W : World) (q p rq r : Nat) (H : FY (fun k => k < w.heap.size) W q p rq r 40 (ps0 40) (ps0 40)) (hA : ActRow (fun k => k < w.heap.size) W a0 len0) => y_plays H (by decide) (good_start 40 _) a0 len0 cap0 hA y0)
  have ADV := Lib.hid (fun (W W' : World) (h : Below w.heap.size w W) (c : Chg (fun k => ¬ k < w.heap.size) W W') => h.trans (c.below h.size (fun _ h => Nat.le_of_not_lt h)))
  have hmk := fun W => make_bools W 40 (by decide)
  rw [show ((40 : Nat) : Int) = 40 from rfl] at hmk
  go_enter Tryz.func5, Tryz.ntmps5
  go_wp2_with fail
  refine (KS.out _).mono ?_
  rintro e w1 ⟨rfl, b1⟩
  have B1 := Lib.hid (((Below.refl w.heap.size w).alloc (Nat.le_refl _) _).trans (b1.mono (by simp))); clear b1
  go_wp2_with fail
  refine (KB.out w1 B1.out.size).mono ?_
  rintro e w2 ⟨q, p, rq, r, rfl, m2, b2⟩
  have M2 := Lib.hid m2; have B2 := Lib.hid (B1.out.trans b2); clear m2 b2
  go_wp2_with fail
  refine (KP.out w2 q p rq r M2.out (ACT.out w2 B2.out)).mono ?_
  rintro e w3 ⟨s, R, rts, sv, rfl, m3, _⟩
  obtain ⟨la, lc, rfl, _⟩ := nI_form m3.r.row
  have M3 := Lib.hid m3; clear m3
  have hr256 : rts.length ≤ 256 := M3.out.ok.small M3.out.g (by decide)
  have B3 := Lib.hid (ADV.out _ _ B2.out M3.out.r.chg)
  have I3 := Lib.hid (ApI.start M3.out.r B3.out (Nat.le_refl _))
  have G := Lib.hid (And.intro M3.out.g M3.out.ok)
  clear KS KB KP ACT B1 M2
  go_wp2_with fail
  generalize w3.heap.size = hd at *
  go_loopw [14] (fun i wr => ∃ (k : Nat) (W' : World), W' = wr ∧ k ≤ rts.length ∧ i = .int .i64 k ∧ Hid (ApI w.heap.size q p rq r hd rts (.slice la rts.length lc) s (fsN s.V (rts.take k)) w W')) (fun i _ => rts.length - (intOf i).toNat)
  case atStart => exact ⟨0, _, rfl, Nat.zero_le _, rfl, I3⟩
  case round =>
    obtain ⟨k, wr, rfl, hk, rfl, HR⟩ := hrel
    by_cases hlt : k < rts.length
    · have d1 : decide ((k : Int) < (rts.length : Int)) = true := decide_eq_true (by omega)
      obtain ⟨root, hrt⟩ : ∃ root, rts.getD k 0 = root := ⟨_, rfl⟩
      have hroot : R root = some (root, 3, 0) := by
        rw [← hrt, getD_getElem rts k hlt]; exact G.out.2.is _ (List.getElem_mem hlt)
      have CELL := Lib.hid (fun (W : World) (H : ApI w.heap.size q p rq r hd rts (.slice la rts.length lc) s (fsN s.V (rts.take k)) w W) => show ∃ gg, la = some ⟨gg, 0, none⟩ ∧ W.cell? ⟨gg, k, none⟩ = some (.int .i64 (root : Nat)) from by
        obtain ⟨la2, lc2, hl, hroots⟩ := H.cell
        obtain ⟨rfl, _, rfl⟩ := Value.slice.inj hl
        obtain ⟨gg, e1, e2⟩ := hroots k hlt
        exact ⟨gg, e1, by rw [← hrt]; exact e2⟩)
      have KP2 := Lib.hid (y_pagesR HR.out.y (by decide) G.out.1 root hroot)
      have NEW := Lib.hid (fun (j : Nat) (hj : j < (fsR s.V root).length) => show (fsR s.V root).getD j 0 ∉ fsN s.V (rts.take k) ++ (fsR s.V root).take j ∧ (fsR s.V root).getD j 0 < 40 from by
        have e := getD_getElem rts k hlt
        rw [hrt] at e
        have h1 := fs_new G.out.1.wf G.out.2 hlt (j := j) (by rw [← e]; exact hj)
        rw [getD_getElem _ j hj]
        refine ⟨?_, fs_lt G.out.1.wf hroot _ (List.getElem_mem hj)⟩
        simp only [← e] at h1
        exact h1)
      have END := Lib.hid (show fsN s.V (rts.take (k + 1)) = fsN s.V (rts.take k) ++ fsR s.V root from by
        rw [takeN rts k hlt, hrt, fsN_append]
        show _ ++ (fsR s.V root ++ []) = _
        rw [List.append_nil])
      have hfl : (fsR s.V root).length ≤ 256 := Nat.le_trans (nodup_bound 40 _ (fsR_ok G.out.1.wf hroot).1 (fs_lt G.out.1.wf hroot)) (by decide)
      obtain ⟨gg, rfl, cx⟩ := CELL.out _ HR.out
      rw [fs_form] at hfl
      have FORM := Lib.hid (fs_form s root)
      clear hrt hroot
      generalize fsR s.V root = FS at *
      go_wp2_with fail
      refine KP2.out.mono ?_
      rintro e w6 ⟨svl, svt, rfl, m6⟩
      generalize pgV (visT s.V 2 root 0 32) = L at *
      generalize tabT s.V 2 root 0 32 = T at *
      rw [List.length_append, List.length_append, List.length_map, List.length_singleton] at hfl
      obtain ⟨xb, cb, rfl, _⟩ := pg_form m6.l
      have M6 := Lib.hid m6; clear m6
      obtain ⟨gg2, hg2, cx2⟩ := CELL.out w6 (MarkI.made HR.out M6.out).i
      cases hg2
      have hU9 := M6.out.t
      have hn9 : (nI T).length = T.length := nI_len T
      rw [hn9] at hU9
      have hszz : wr.heap.size ≤ w6.heap.size := M6.out.chg.size
      have km : T.length + 1 ≤ maxLen := by unfold maxLen; omega
      have kb : (T.length + 1) * 8 ≤ 140737488355328 := by omega
      go_wp2_with (at_builtin; refine wpList_append_own_at _ rfl (.tmp 61) (.tmp 66) 30 rfl wr.heap.size 3 i0 (.int .i64 0) 1 8 Tryz.underlying30 hi hz0 hz1 hz2 rfl (by decide) _ _ _ rfl (hU9.alloc _) ⟨w6.heap.size, 0, none⟩ 1 1 [.int .i64 (root : Nat)] rfl rfl (cell_one_new _ _ _) (by simp [Value.oneCell']) km kb (by simp; omega) ?_; intro v' w7 hown1 hgrow1 _ hat1; have N7 := Lib.hid (M6.out.grown hown1 hgrow1 hat1); clear hown1 hgrow1 hat1)
      clear hU9 hszz km kb hn9
      obtain ⟨P, hP⟩ : ∃ P, P = L.map (fun v => v.2 / 1024) := ⟨_, rfl⟩
      have hPl : P.length = L.length := by rw [hP, List.length_map]
      have PG := Lib.hid (fun (j : Nat) (hj : j < L.length) => show P.getD j 0 = L[j].2 / 1024 from by
        rw [hP]; exact fr_getD L j hj)
      rw [← hP] at FORM
      clear hP
      go_wp2_with (go_step3)
      go_loopw [16, 17] (fun xt i W => ∃ (j : Nat) (svt : Value) (W' : World), W' = W ∧ svt = xt ∧ j ≤ L.length ∧ i = .int .i64 j ∧ Hid (PagesY (fun k => (k < w.heap.size ∨ Value.ownBlock (.slice (some ⟨gg, 0, none⟩) rts.length lc) = some k) ∨ k = hd) wr L ((T ++ [root]) ++ P.take j) (.slice xb L.length cb) svt q p rq r 40 s s W')) (fun _ i _ => L.length - (intOf i).toNat)
      case atStart => exact ⟨0, _, _, rfl, rfl, Nat.zero_le _, rfl, by rw [List.take_zero, List.append_nil]; exact N7⟩
      case round =>
        obtain ⟨j, svt2, wj, rfl, rfl, hj, rfl, HJ⟩ := hrel
        by_cases hjl : j < L.length
        · have d2 : decide ((j : Int) < (L.length : Int)) = true := decide_eq_true (by omega)
          obtain ⟨xb', cb', h1, hc⟩ := pg_form HJ.out.l
          obtain ⟨rfl, _, rfl⟩ := Value.slice.inj h1
          obtain ⟨g', rfl, _, _, cg⟩ := hc j hjl
          rw [← PG.out j hjl] at cg
          have e5 : (T ++ [root]) ++ P.take (j + 1) = ((T ++ [root]) ++ P.take j) ++ [P.getD j 0] := by rw [takeN P j (by omega), ← List.append_assoc]
          generalize P.getD j 0 = x at *
          have hTl : ((T ++ [root]) ++ P.take j).length ≤ 256 := by rw [List.length_append, List.length_append, List.length_singleton, List.length_take]; omega
          obtain ⟨Tj, hTj⟩ : ∃ Tj, Tj = (T ++ [root]) ++ P.take j := ⟨_, rfl⟩
          rw [← hTj] at HJ e5 hTl
          have E5 := Lib.hid e5
          have hU9 := HJ.out.t
          have hn9 : (nI Tj).length = Tj.length := nI_len Tj
          rw [hn9] at hU9
          have hszz : wr.heap.size ≤ wj.heap.size := HJ.out.chg.size
          have km : Tj.length + 1 ≤ maxLen := by unfold maxLen; omega
          have kb : (Tj.length + 1) * 8 ≤ 140737488355328 := by omega
          have y1 : (0 : Int) ≤ (j : Int) := Int.natCast_nonneg j
          have y2 : (j : Int) < (L.length : Int) := Int.ofNat_lt.2 hjl
          clear e5 hTj h1 hc
          go_wp2_with (at_builtin; refine wpList_append_own_at _ rfl (.tmp 74) (.tmp 80) 30 rfl wr.heap.size 3 i0 (.int .i64 0) 1 8 Tryz.underlying30 hi hz0 hz1 hz2 rfl (by decide) _ _ _ rfl (hU9.alloc _) ⟨wj.heap.size, 0, none⟩ 1 1 [.int .i64 (x : Nat)] rfl rfl (cell_one_new _ _ _) (by simp [Value.oneCell']) km kb (by simp; omega) ?_; intro v2 w8 hown1 hgrow1 _ hat1; have N8 := Lib.hid (HJ.out.grown hown1 hgrow1 hat1); clear hown1 hgrow1 hat1)
          rw [← E5.out] at N8
          go_roundw
          case rel => exact ⟨j + 1, _, _, rfl, rfl, by omega, by go_num, N8⟩
          case measure => simp [intOf]; omega
        · have d2 : decide ((j : Int) < (L.length : Int)) = false := decide_eq_false (by omega)
          have hT : (T ++ [root]) ++ P.take j = FS := by rw [FORM.out, List.take_of_length_le (by omega)]
          rw [hT] at HJ
          have MK := Lib.hid (MarkI.made HR.out HJ.out)
          have hFl : FS.length ≤ 256 := by rw [← hT, List.length_append, List.length_append, List.length_singleton, List.length_take]; omega
          obtain ⟨ta, tc, rfl, _⟩ := MK.out.cell
          clear hT HJ
          go_wp2_with (go_step3)
          generalize fsN s.V (rts.take k) = D at *
          go_loopw [18] (fun i W => ∃ (j : Nat) (W' : World), W' = W ∧ j ≤ FS.length ∧ i = .int .i64 j ∧ Hid (MarkI w.heap.size q p rq r hd rts (.slice (some ⟨gg, 0, none⟩) rts.length lc) (.slice ta FS.length tc) s FS (D ++ FS.take j) w W')) (fun i _ => FS.length - (intOf i).toNat)
          case atStart => exact ⟨0, _, rfl, Nat.zero_le _, rfl, by rw [List.take_zero, List.append_nil]; exact MK⟩
          case round =>
            obtain ⟨j, wj, rfl, hj, rfl, HJ⟩ := hrel
            by_cases hjl : j < FS.length
            · have d3 : decide ((j : Int) < (FS.length : Int)) = true := decide_eq_true (by omega)
              obtain ⟨ta', tc', h1, hc⟩ := HJ.out.cell
              obtain ⟨rfl, _, rfl⟩ := Value.slice.inj h1
              obtain ⟨g', rfl, cg⟩ := hc j hjl
              obtain ⟨n1, n2⟩ := NEW.out j hjl
              have e5 : D ++ FS.take (j + 1) = (D ++ FS.take j) ++ [FS.getD j 0] := by rw [takeN FS j hjl, ← List.append_assoc]
              generalize FS.getD j 0 = x at *
              have ch := HJ.out.i.had.cell x n2
              rw [decide_eq_false n1] at ch
              have cf := HJ.out.i.had.free x
              have N9 := Lib.hid (HJ.out.set n2)
              rw [← e5] at N9
              have y1 : (0 : Int) ≤ (j : Int) := Int.natCast_nonneg j
              have y2 : (j : Int) < (FS.length : Int) := Int.ofNat_lt.2 hjl
              have y3 : (0 : Int) ≤ (x : Int) := Int.natCast_nonneg x
              have y4 : (x : Int) < 40 := by omega
              clear n1 e5 h1 hc
              go_wp2_with (go_step3)
              go_roundw
              case rel => exact ⟨j + 1, _, rfl, by omega, by go_num, N9⟩
              case measure => simp [intOf]; omega
            · have d3 : decide ((j : Int) < (FS.length : Int)) = false := decide_eq_false (by omega)
              have hT : D ++ FS.take j = fsN s.V (rts.take (k + 1)) := by rw [END.out, List.take_of_length_le (by omega)]
              rw [hT] at HJ
              have NI := Lib.hid HJ.out.i
              clear hT HJ
              go_wp2_with (go_step3)
              go_roundw
              case rel => exact ⟨k + 1, _, rfl, by omega, by go_num, NI⟩
              case measure => simp [intOf]; omega
    · have d1 : decide ((k : Int) < (rts.length : Int)) = false := decide_eq_false (by omega)
      by_cases hneg : ww < 0
      · have z1 : decide (ww < (0 : Int)) = true := decide_eq_true hneg
        go_wp2_with fail
        go_ret
        exact ⟨rfl, HR.out.bel⟩
      have z1 : decide (ww < (0 : Int)) = false := decide_eq_false hneg
      by_cases hbig : (rts.length : Int) ≤ ww
      · have z2 : decide ((rts.length : Int) ≤ ww) = true := decide_eq_true hbig
        go_wp2_with fail
        go_ret
        exact ⟨rfl, HR.out.bel⟩
      have z2 : decide ((rts.length : Int) ≤ ww) = false := decide_eq_false hbig
      obtain ⟨mw, rfl⟩ := Int.eq_ofNat_of_zero_le (show 0 ≤ ww by omega)
      have hmw : mw < rts.length := by omega
      have R1 := Lib.hid HR.out.row
      have Y1 := Lib.hid (show FY (fun k => k < w.heap.size ∨ Value.ownBlock (.slice la rts.length lc) = some k) wr q p rq r 40 s s from HR.out.y.weak (fun k hk => .inl hk))
      have BEL := Lib.hid (fun (W : World) (c : Chg (fun k => ¬ (k < w.heap.size ∨ Value.ownBlock (.slice la rts.length lc) = some k)) wr W) => ADV.out _ _ HR.out.bel (c.mono (fun k a b => a (.inl b))))
      have CELLR := Lib.hid (fun (W : World) (c : Chg (fun k => ¬ (k < w.heap.size ∨ Value.ownBlock (.slice la rts.length lc) = some k)) wr W) (i : Nat) (hi : i < rts.length) => show ∃ gg, la = some ⟨gg, 0, none⟩ ∧ W.cell? ⟨gg, i, none⟩ = some (.int .i64 (rts.getD i 0 : Nat)) from by
        obtain ⟨B', h1⟩ := R1.out
        obtain ⟨la2, lc2, hl, hroots⟩ := nI_form (ownsRow_chg h1 c (fun k hk a => a (.inr hk)))
        obtain ⟨rfl, _, rfl⟩ := Value.slice.inj hl
        obtain ⟨gg, e1, _, e2⟩ := hroots i hi
        exact ⟨gg, e1, e2⟩)
      have ROOT := Lib.hid (fun (i : Nat) (hi : i < rts.length) => show R (rts.getD i 0) = some (rts.getD i 0, 3, 0) from by rw [getD_getElem rts i hi]; exact G.out.2.is _ (List.getElem_mem hi))
      obtain ⟨gg, rfl, _⟩ := CELLR.out wr (Chg.refl _ _) mw hmw
      have START := Lib.hid (RowY.nil (ty := 9) Y1.out)
      clear HR
      go_wp2_with fail
      go_loopw [19, 20] (fun xs i W => ∃ (k : Nat) (svb : Value) (W' : World), W' = W ∧ svb = xs ∧ k ≤ rts.length ∧ i = .int .i64 k ∧ Hid (RowY (fun k => k < w.heap.size ∨ Value.ownBlock (.slice (some ⟨gg, 0, none⟩) rts.length lc) = some k) wr.heap.size 9 (shL s (rts.take k)) svb q p rq r 40 s s wr W')) (fun _ i _ => rts.length - (intOf i).toNat)
      case atStart => exact ⟨0, _, _, rfl, rfl, Nat.zero_le _, rfl, START⟩
      case round =>
        obtain ⟨k, svb, wj, rfl, rfl, hk, rfl, HJ⟩ := hrel
        by_cases hlt : k < rts.length
        · have d2 : decide ((k : Int) < (rts.length : Int)) = true := decide_eq_true (by omega)
          obtain ⟨gg2, hg2, cx⟩ := CELLR.out wj HJ.out.chg k hlt
          cases hg2
          have KA := y_all HJ.out.y (by decide) G.out.1 (rts.getD k 0) (ROOT.out k hlt)
          have e5 : shL s (rts.take (k + 1)) = shL s (rts.take k) ++ [.string ⟨(allL s.V 40 (rts.getD k 0) (pagesL s.V (rts.getD k 0))).toArray⟩] := by
            rw [takeN rts k hlt]; unfold shL; rw [List.map_append]; rfl
          generalize (⟨(allL s.V 40 (rts.getD k 0) (pagesL s.V (rts.getD k 0))).toArray⟩ : ByteArray) = st at *
          generalize rts.getD k 0 = root at *
          have hsl : (shL s (rts.take k)).length ≤ 256 := by rw [shL_len, List.length_take]; omega
          generalize shL s (rts.take k) = xs at *
          have km : xs.length + 1 ≤ maxLen := by unfold maxLen; omega
          have kb : (xs.length + 1) * 16 ≤ 140737488355328 := by omega
          have E5 := Lib.hid e5
          have KA := Lib.hid KA
          clear e5
          go_wp2_with (go_step3)
          refine KA.out.mono ?_
          rintro e w5 ⟨rfl, m5, c5⟩
          have M5 := Lib.hid (HJ.out.stepped (v := .int .u64 0) (e := .returned (.int .u64 0)) ⟨rfl, m5, c5⟩); clear m5 c5
          have hU9 := M5.out.row
          have hszz : wr.heap.size ≤ w5.heap.size := M5.out.chg.size
          go_wp2_with (at_builtin; refine wpList_append_own_at _ rfl (.tmp 116) (.tmp 123) 56 rfl wr.heap.size 9 j0 (.string ByteArray.empty) 1 16 Tryz.underlying56 hj hy0 hy1 hy2 rfl (by decide) _ _ _ rfl (hU9.alloc _) ⟨w5.heap.size, 0, none⟩ 1 1 [.string st] rfl rfl (cell_one_new _ _ _) (by simp [Value.oneCell']) km kb (by simp; omega) ?_; intro v2 w8 hown1 hgrow1 _ hat1; have N8 := Lib.hid (M5.out.grown hown1 (by simp) hgrow1 hat1); clear hown1 hgrow1 hat1)
          rw [← E5.out] at N8
          go_roundw
          case rel => exact ⟨k + 1, _, _, rfl, rfl, by omega, by go_num, N8⟩
          case measure => simp [intOf]; omega
        · have d2 : decide ((k : Int) < (rts.length : Int)) = false := decide_eq_false (by omega)
          rw [List.take_of_length_le (by omega : rts.length ≤ k)] at HJ
          obtain ⟨gg2, hg2, cx⟩ := CELLR.out wj HJ.out.chg mw hmw
          cases hg2
          obtain ⟨s', er, g', same, KO⟩ := y_outX (by decide) G.out.1 (rts.getD mw 0) (ROOT.out mw hmw) at_ str
          have KO := Lib.hid (KO _ _ q p rq r s HJ.out.y)
          have SAME := Lib.hid (fun (i : Nat) (hi : i < rts.length) (hne : i ≠ mw) => same (rts.getD i 0) (ROOT.out i hi) (fun e => hne (by
            rw [getD_getElem rts i hi, getD_getElem rts mw hmw] at e
            exact nodup_inj G.out.2.nodup _ _ e)))
          have G' := Lib.hid g'
          obtain ⟨xb, cb, hxb, _⟩ := row_form HJ.out.row
          rw [shL_len] at hxb
          subst hxb
          clear g' same
          generalize rts.getD mw 0 = rootw at *
          go_wp2_with (go_step3)
          refine KO.out.mono ?_
          rintro e w5 ⟨rfl, m5, c5⟩
          have M5 := Lib.hid (HJ.out.stepped (v := .int .u64 0) (e := .returned (.int .u64 0)) ⟨rfl, m5, c5⟩); clear m5 c5
          go_wp2_with (go_step3)
          go_loopw [21] (fun i W => ∃ (k : Nat) (W' : World), W' = W ∧ k ≤ rts.length ∧ i = .int .i64 k ∧ Hid (RowY (fun k => k < w.heap.size ∨ Value.ownBlock (.slice (some ⟨gg, 0, none⟩) rts.length lc) = some k) wr.heap.size 9 (shL s rts) (.slice xb rts.length cb) q p rq r 40 s' s wr W')) (fun i _ => rts.length - (intOf i).toNat)
          case atStart => exact ⟨0, _, rfl, Nat.zero_le _, rfl, M5⟩
          case round =>
            obtain ⟨k, wj, rfl, hk, rfl, HJ⟩ := hrel
            by_cases hlt4 : k < rts.length
            · have d4 : decide ((k : Int) < (rts.length : Int)) = true := decide_eq_true (by omega)
              by_cases hkw : k = mw
              · subst hkw
                have z5 : ((k : Int) == (k : Int)) = true := by simp
                go_wp2_with (go_step3)
                go_quiet (fail)
                go_wp2_with (go_step3)
                go_roundw
                case rel => exact ⟨k + 1, _, rfl, by omega, by go_num, Lib.hid (HJ.out.nothing ((Chg.refl (fun _ => False) _).drewN _) (fun _ a => a))⟩
                case measure => simp [intOf]; omega
              · have z5 : ((k : Int) == (mw : Int)) = false := by simpa using (show ¬ ((k : Int) = (mw : Int)) by omega)
                have CL := Lib.hid (fun (W : World) (H : RowY (fun k => k < w.heap.size ∨ Value.ownBlock (.slice (some ⟨gg, 0, none⟩) rts.length lc) = some k) wr.heap.size 9 (shL s rts) (.slice xb rts.length cb) q p rq r 40 s' s wr W) => show W.cell? ⟨gg, k, none⟩ = some (.int .i64 (rts.getD k 0 : Nat)) ∧ ∃ gb, xb = some ⟨gb, 0, none⟩ ∧ W.cell? ⟨gb, k, none⟩ = some (.string ⟨(allL s.V 40 (rts.getD k 0) (pagesL s.V (rts.getD k 0))).toArray⟩) from by
                  obtain ⟨gg3, hg3, cx3⟩ := CELLR.out W H.chg k hlt4
                  cases hg3
                  obtain ⟨xb2, cb2, h2, hc2⟩ := row_form H.row
                  obtain ⟨rfl, _, rfl⟩ := Value.slice.inj h2
                  obtain ⟨gb, e1, _, e2⟩ := hc2 k (by rw [shL_len]; exact hlt4)
                  refine ⟨cx3, gb, e1, e2.trans ?_⟩
                  have e3 : (shL s rts)[k]? = some (.string ⟨(allL s.V 40 (rts.getD k 0) (pagesL s.V (rts.getD k 0))).toArray⟩) := by
                    unfold shL
                    rw [List.getElem?_map, List.getElem?_eq_getElem hlt4, getD_getElem rts k hlt4]
                    rfl
                  rw [← e3, List.getElem?_eq_getElem])
                have KA := fun (W : World) (H : RowY (fun k => k < w.heap.size ∨ Value.ownBlock (.slice (some ⟨gg, 0, none⟩) rts.length lc) = some k) wr.heap.size 9 (shL s rts) (.slice xb rts.length cb) q p rq r 40 s' s wr W) => y_all H.y (by decide) G'.out (rts.getD k 0) (ROOT.out k hlt4)
                rw [SAME.out k hlt4 hkw] at KA
                generalize (⟨(allL s.V 40 (rts.getD k 0) (pagesL s.V (rts.getD k 0))).toArray⟩ : ByteArray) = st at *
                generalize rts.getD k 0 = root at *
                have zs := tl_self st
                have z6 : (k == mw) = false := by simpa using hkw
                have z7 : ¬ ((k : Int) = (mw : Int)) := by omega
                have z8 : ((k : Int) != (mw : Int)) = true := by simpa using (show ¬ ((k : Int) = (mw : Int)) by omega)
                have z9 : (k != mw) = true := by simpa using hkw
                have KD := Lib.hid (KA _ (HJ.out.nothing ((Chg.refl (fun _ => False) _).drew) (fun _ a => a)))
                obtain ⟨cx1, gb, rfl, cb1⟩ := CL.out _ HJ.out
                have y1 : (0 : Int) ≤ (k : Int) := Int.natCast_nonneg k
                have y2 : (k : Int) < (rts.length : Int) := Int.ofNat_lt.2 hlt4
                go_wp2_with (go_step3)
                go_region_held3 (fun w' => w'.cell? ⟨gg, k, none⟩ = some (.int .i64 (root : Nat)) ∧ w'.cell? ⟨gb, k, none⟩ = some (.string st)) (first | assumption | exact ⟨cx1, cb1⟩ | (simp [*]; done))
                  (first
                    | (go_at_call 16; refine KD.out.mono ?_; rintro e v1 ⟨rfl, m5, c5⟩; have M6 := Lib.hid ((HJ.out.nothing ((Chg.refl (fun _ => False) _).drew) (fun _ a => a)).stepped (v := .int .u64 0) (e := .returned (.int .u64 0)) ⟨rfl, m5, c5⟩); have cT : v1.cell? ⟨gg, k, none⟩ = some (.int .i64 (root : Nat)) ∧ v1.cell? ⟨gb, k, none⟩ = some (.string st) := (by obtain ⟨u1, gb2, u2, u3⟩ := CL.out _ M6.out; cases u2; exact ⟨u1, u3⟩); clear m5 c5))
                go_wp2_with (go_step3)
                go_roundw
                case rel => exact ⟨k + 1, _, rfl, by omega, by go_num, M6⟩
                case measure => simp [intOf]; omega
            · have d4 : decide ((k : Int) < (rts.length : Int)) = false := decide_eq_false (by omega)
              have B9 := Lib.hid (BEL.out _ HJ.out.chg)
              go_wp2_with fail
              go_ret
              exact ⟨rfl, B9.out⟩
end Go.Proofs.YtodjmfmenfncdaaGreat
