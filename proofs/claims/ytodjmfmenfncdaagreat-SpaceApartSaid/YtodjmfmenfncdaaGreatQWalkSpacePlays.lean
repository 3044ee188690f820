/-
  The walk of the statement SpacePlays: true, for every input.
-/
import Derived.Test.YtodjmfmenfncdaaGreatG22
import Derived.Test.YtodjmfmenfncdaaGreatOpenS
namespace Go.Proofs.YtodjmfmenfncdaaGreat
open Go.RowKit

/-- the acts that are handed in -/
theorem acts_row {w w' : World} {a0 : Option Addr} {len0 : Nat} {V0 : Nat → Nat → Value} (s0 : SRow w a0 len0 7 V0)
    (t0 : ∀ i, i < len0 → ∃ x : Int, V0 i 0 = .int .i64 x ∧ (Lit.int .i64 x).wf = true) (t1 : ∀ i, i < len0 → ∃ x : Int, V0 i 1 = .int .i64 x ∧ (Lit.int .i64 x).wf = true)
    (t2 : ∀ i, i < len0 → ∃ x : Int, V0 i 2 = .int .i64 x ∧ (Lit.int .i64 x).wf = true) (t3 : ∀ i, i < len0 → ∃ x : Int, V0 i 3 = .int .i64 x ∧ (Lit.int .i64 x).wf = true)
    (t4 : ∀ i, i < len0 → ∃ x : Int, V0 i 4 = .int .u64 x ∧ (Lit.int .u64 x).wf = true) (t5 : ∀ i, i < len0 → ∃ x : Int, V0 i 5 = .int .u64 x ∧ (Lit.int .u64 x).wf = true)
    (t6 : ∀ i, i < len0 → ∃ x : ByteArray, V0 i 6 = .string x ∧ x.size ≤ maxLen) (hb : Below w.heap.size w w') : ActRow (fun k => k < w.heap.size) w' a0 len0 := by
  rcases s0 with h | ⟨b, off, rfl, hb0, hcell⟩
  · exact .inl h
  · refine .inr ⟨b, off, rfl, hb0, Nat.lt_of_lt_of_le hb0 hb.size, fun i hi => ?_⟩
    obtain ⟨kd, e0, _⟩ := t0 i hi
    obtain ⟨wh, e1, _⟩ := t1 i hi
    obtain ⟨pg, e2, _⟩ := t2 i hi
    obtain ⟨n, e3, _⟩ := t3 i hi
    obtain ⟨b4, e4, w4⟩ := t4 i hi
    obtain ⟨b5, e5, w5⟩ := t5 i hi
    obtain ⟨str, e6, _⟩ := t6 i hi
    obtain ⟨bits, rfl, hbits⟩ := u64_nat' w4
    obtain ⟨at_, rfl, _⟩ := u64_nat' w5
    refine ⟨kd, wh, pg, n, bits, at_, str, hbits, fun j v hj => ?_⟩
    have key : ∀ j, j < 7 → w'.cell? ⟨b, off + i * 7 + j, none⟩ = some (V0 i j) := fun j hj => by
      rw [hb.cell hb0, ← hcell i hi j hj]
      congr 2
      omega
    have e : (⟨b, off + i * 7, none⟩ : Addr).add j = ⟨b, off + i * 7 + j, none⟩ := by simp [Addr.add]
    unfold actC at hj
    match j, hj with
    | 0, hj => cases hj; rw [key 0 (by omega), e0]
    | 1, hj => cases hj; rw [key 1 (by omega), e1]
    | 2, hj => cases hj; rw [key 2 (by omega), e2]
    | 3, hj => cases hj; rw [key 3 (by omega), e3]
    | 4, hj => cases hj; rw [key 4 (by omega), e4]
    | 5, hj => cases hj; rw [key 5 (by omega), e5]
    | 6, hj => cases hj; rw [key 6 (by omega), e6]
    | j + 7, hj => cases hj
/-- the pages of one root on both sides, beside both pools -/
structure TwoY (S : Nat → Prop) (w0 : World) (q p rq r F : Nat) (rts : List Nat) (sv : Value) (s : PS) (R : Roles) (L : List (Int × Nat)) (sva svl : Value) (W : World) : Prop where
  pl : PlaysI S w0 q p rq r F rts sv s R W
  a : ∃ B, W.ownsRow B 3 1 sva (nZ (L.map fun v => v.1)).length (nZ (L.map fun v => v.1))
  b : ∃ B, W.ownsRow B 44 3 svl L.length (pgCs L)
theorem TwoY.nothing {S : Nat → Prop} {w0 : World} {q p rq r F : Nat} {rts : List Nat} {sv : Value} {s : PS} {R : Roles} {L : List (Int × Nat)} {sva svl : Value} {W W' : World} (h : TwoY S w0 q p rq r F rts sv s R L sva svl W) (c : Chg (fun _ => False) W W') : TwoY S w0 q p rq r F rts sv s R L sva svl W' := by
  obtain ⟨hp, ⟨B, ha⟩, ⟨B', hb⟩⟩ := h
  exact ⟨⟨hp.r.nothing c (fun _ a => a), hp.g, hp.ok⟩, ⟨B, ownsRow_chg ha c (fun _ _ a => a)⟩, ⟨B', ownsRow_chg hb c (fun _ _ a => a)⟩⟩
theorem TwoY.made {S : Nat → Prop} {w0 wr w2 w3 : World} {q p rq r F root : Nat} {rts : List Nat} {sv sva svl svt : Value} {s : PS} {R : Roles} (h : PlaysI S w0 q p rq r F rts sv s R wr) (h2 : RowY (fun k => S k ∨ sv.ownBlock = some k) wr.heap.size 3 (nZ (pagesL s.V root)) sva q p rq r F s s wr w2)
    (h3 : PagesY (fun k => (S k ∨ sv.ownBlock = some k) ∨ sva.ownBlock = some k) w2 (pgV (visT s.V 2 root 0 32)) (tabT s.V 2 root 0 32) svl svt q p rq r F s s w3) : TwoY S w0 q p rq r F rts sv s R (pgV (visT s.V 2 root 0 32)) sva svl w3 := by
  refine ⟨⟨(h.r.outer h2).stepped (v := .int .u64 0) (e := .returned (.int .u64 0)) ⟨rfl, h3.y.weak (fun k hk => .inl (.inl hk)), h3.chg.mono (fun k a b => a (.inl b))⟩, h.g, h.ok⟩, ⟨wr.heap.size, ?_⟩, ⟨_, h3.l⟩⟩
  have e : pagesL s.V root = (pgV (visT s.V 2 root 0 32)).map fun v => v.1 := pgs_pgV _
  rw [← e]
  exact ownsRow_chg h2.row h3.chg (fun k hk a => a (.inr hk))
theorem TwoY.cells {S : Nat → Prop} {w0 : World} {q p rq r F : Nat} {rts : List Nat} {sv : Value} {s : PS} {R : Roles} {L : List (Int × Nat)} {sva svl : Value} {W : World} (h : TwoY S w0 q p rq r F rts sv s R L sva svl W) :
    ∃ x c y d, sva = .slice x L.length c ∧ svl = .slice y L.length d ∧ ∀ j, j < L.length → ∃ g g' n, x = some ⟨g, 0, none⟩ ∧ y = some ⟨g', 0, none⟩ ∧ W.cell? ⟨g, j, none⟩ = some (.int .i64 n) ∧ W.cell? ⟨g', j * 3, none⟩ = some (.int .i64 n) := by
  obtain ⟨_, ⟨B, ha⟩, ⟨B', hb⟩⟩ := h
  obtain ⟨x, c, h1, h2⟩ := nZ_form ha
  obtain ⟨y, d, h3, h4⟩ := pg_form hb
  rw [List.length_map] at h1 h2
  refine ⟨x, c, y, d, h1, h3, fun j hj => ?_⟩
  obtain ⟨g, e1, _, e2⟩ := h2 j hj
  obtain ⟨g', e3, _, e4, _⟩ := h4 j hj
  have e : (L.map fun v => v.1).getD j 0 = L[j].1 := by rw [List.getD, List.getElem?_map, List.getElem?_eq_getElem hj]; rfl
  exact ⟨g, g', _, e1, e3, by rw [← e]; exact e2, e4⟩

set_option maxRecDepth 100000 in
set_option maxHeartbeats 3200000 in
theorem spacePlays_walk (w : World) (sz : Int) (_v0 : (Lit.int .i64 sz).wf = true) (a0 : Option Addr) (len0 cap0 : Nat) (V0 : Nat → Nat → Value) (s0 : SRow w a0 len0 7 V0)
    (t0 : ∀ i, i < len0 → ∃ x : Int, V0 i 0 = .int .i64 x ∧ (Lit.int .i64 x).wf = true) (t1 : ∀ i, i < len0 → ∃ x : Int, V0 i 1 = .int .i64 x ∧ (Lit.int .i64 x).wf = true)
    (t2 : ∀ i, i < len0 → ∃ x : Int, V0 i 2 = .int .i64 x ∧ (Lit.int .i64 x).wf = true) (t3 : ∀ i, i < len0 → ∃ x : Int, V0 i 3 = .int .i64 x ∧ (Lit.int .i64 x).wf = true)
    (t4 : ∀ i, i < len0 → ∃ x : Int, V0 i 4 = .int .u64 x ∧ (Lit.int .u64 x).wf = true) (t5 : ∀ i, i < len0 → ∃ x : Int, V0 i 5 = .int .u64 x ∧ (Lit.int .u64 x).wf = true)
    (t6 : ∀ i, i < len0 → ∃ x : ByteArray, V0 i 6 = .string x ∧ x.size ≤ maxLen)
    (y0 : len0 * Tryz.prog.bytesOf 74 ≤ 140737488351232) :
    Calls Tryz.prog 4 #[.int .i64 sz, .slice a0 len0 cap0] w fun e w' => e = .returned (.bool true) ∧ Below w.heap.size w w' := by
  have hlen : len0 ≤ 9223372036854775807 := by
    have e : Tryz.prog.bytesOf 74 = 64 := by kernel_rfl
    rw [e] at y0; omega
  have KS := Lib.hid (sp_shown w)
  have KB := Lib.hid (fun (W : World) (h : w.heap.size ≤ W.heap.size) => y_both w.heap.size W h sz)
  have ACT := Lib.hid (fun (W : World) (h : Below w.heap.size w W) => acts_row s0 t0 t1 t2 t3 t4 t5 t6 h)
  have HF := Lib.hid (sizF_le sz)
  clear s0 t0 t1 t2 t3 t4 t5 t6 y0
  generalize sizF sz = F at *
  have KP := Lib.hid (fun (W : World) (q p rq r : Nat) (H : FY (fun k => k < w.heap.size) W q p rq r F (ps0 F) (ps0 F)) (hA : ActRow (fun k => k < w.heap.size) W a0 len0) => y_plays H HF.out.2 (good_start F _) a0 len0 cap0 hA hlen)
  have ADV := Lib.hid (fun (W W' : World) (h : Below w.heap.size w W) (c : Chg (fun k => ¬ k < w.heap.size) W W') => h.trans (c.below h.size (fun _ h => Nat.le_of_not_lt h)))
  obtain ⟨N, hN⟩ : ∃ N, F * 256 = N := ⟨_, rfl⟩
  have HN := Lib.hid hN
  clear hN
  go_enter Tryz.func4, Tryz.ntmps4
  go_wp2_with fail
  refine KS.out.mono ?_
  rintro e w1 ⟨rfl, b1⟩
  have B1 := Lib.hid b1; clear b1
  go_wp2_with fail
  refine (KB.out w1 B1.out.size).mono ?_
  rintro e w2 ⟨q, p, rq, r, rfl, m2, b2⟩
  have M2 := Lib.hid m2; have B2 := Lib.hid (B1.out.trans b2); clear m2 b2
  go_wp2_with fail
  refine (KP.out w2 q p rq r M2.out (ACT.out w2 B2.out)).mono ?_
  rintro e w3 ⟨s, R, rts, sv, rfl, m3, _⟩
  obtain ⟨la, lc, rfl, _⟩ := nI_form m3.r.row
  have M3 := Lib.hid m3; clear m3
  have zl : (((s.left F : Nat) : Int) == ((s.left F : Nat) : Int)) = true := by simp
  have hr256 : rts.length ≤ 256 := M3.out.ok.small M3.out.g HF.out.2
  go_wp2_with fail
  refine (y_left M3.out.r.y).mono ?_
  rintro e w4 ⟨rfl, rfl⟩
  go_wp2_with fail
  refine (y_leftR M3.out.r.y HF.out.2).mono ?_
  rintro e w4 ⟨rfl, rfl⟩
  clear KS KB KP ACT B1 M2
  go_wp2_with fail
  go_loopw [11] (fun i wr => ∃ (k : Nat) (W' : World), W' = wr ∧ k ≤ rts.length ∧ i = .int .i64 k ∧ Hid (PlaysI (fun k => k < w.heap.size) w2 q p rq r F rts (.slice la rts.length lc) s R W')) (fun i _ => rts.length - (intOf i).toNat)
  case atStart => exact ⟨0, _, rfl, Nat.zero_le _, rfl, M3⟩
  case round =>
    obtain ⟨k, wr, rfl, hk, rfl, HR⟩ := hrel
    by_cases hlt : k < rts.length
    · have d1 : decide ((k : Int) < (rts.length : Int)) = true := decide_eq_true (by omega)
      obtain ⟨root, hrt⟩ : ∃ root, rts.getD k 0 = root := ⟨_, rfl⟩
      have hroot : R root = some (root, 3, 0) := by
        rw [← hrt, getD_getElem rts k hlt]; exact HR.out.ok.is _ (List.getElem_mem hlt)
      have CELL := Lib.hid (fun (W : World) (H : PlaysI (fun k => k < w.heap.size) w2 q p rq r F rts (.slice la rts.length lc) s R W) => show ∃ gg, la = some ⟨gg, 0, none⟩ ∧ W.cell? ⟨gg, k, none⟩ = some (.int .i64 (root : Nat)) from by
        obtain ⟨la2, lc2, hl, hroots⟩ := nI_form H.r.row
        obtain ⟨rfl, _, rfl⟩ := Value.slice.inj hl
        obtain ⟨gg, e1, _, e2⟩ := hroots k hlt
        exact ⟨gg, e1, by rw [← hrt]; exact e2⟩)
      have KP1 := Lib.hid (y_pages HR.out.r.y HF.out.2 HR.out.g root hroot)
      have KP2 := Lib.hid (fun (S : Nat → Prop) (W : World) (H : FY S W q p rq r F s s) => y_pagesR H HF.out.2 HR.out.g root hroot)
      have MADE := Lib.hid (fun (w5 w6 : World) (sva svl svt : Value) => TwoY.made (root := root) (w2 := w5) (w3 := w6) (sva := sva) (svl := svl) (svt := svt) HR.out)
      obtain ⟨gg, rfl, cx⟩ := CELL.out _ HR.out
      clear hrt hroot
      go_wp2_with fail
      refine KP1.out.mono ?_
      rintro e w5 ⟨sva, rfl, m5⟩
      have M5 := Lib.hid m5; clear m5
      obtain ⟨gg2, hg2, cx2⟩ := CELL.out w5 ⟨HR.out.r.outer M5.out, HR.out.g, HR.out.ok⟩
      cases hg2
      go_wp2_with fail
      refine (KP2.out _ _ M5.out.y).mono ?_
      rintro e w6 ⟨svl, svt, rfl, m6⟩
      have M6 := Lib.hid (MADE.out w5 w6 sva svl svt M5.out m6); clear m6
      have hL : (pgV (visT s.V 2 root 0 32)).length ≤ 40000 := by
        have := pg_len s.V 2 root 0 32
        rw [pows.1] at this
        omega
      generalize pgV (visT s.V 2 root 0 32) = L at *
      obtain ⟨xa, ca, xb, cb, rfl, rfl, _⟩ := M6.out.cells
      have zz : ((L.length : Int) == (L.length : Int)) = true := by simp
      go_wp2_with fail
      go_loopw [16] (fun i W => ∃ (j : Nat) (W' : World), W' = W ∧ j ≤ L.length ∧ i = .int .i64 j ∧ Hid (TwoY (fun k => k < w.heap.size) w2 q p rq r F rts (.slice (some ⟨gg, 0, none⟩) rts.length lc) s R L (.slice xa L.length ca) (.slice xb L.length cb) W')) (fun i _ => L.length - (intOf i).toNat)
      case atStart => exact ⟨0, _, rfl, Nat.zero_le _, rfl, M6⟩
      case round =>
        obtain ⟨j, wj, rfl, hj, rfl, HJ⟩ := hrel
        by_cases hjl : j < L.length
        · have d2 : decide ((j : Int) < (L.length : Int)) = true := decide_eq_true (by omega)
          obtain ⟨xa', ca', xb', cb', h1, h2, hc⟩ := HJ.out.cells
          obtain ⟨rfl, _, rfl⟩ := Value.slice.inj h1
          obtain ⟨rfl, _, rfl⟩ := Value.slice.inj h2
          obtain ⟨g, g', n, rfl, rfl, cg, cg'⟩ := hc j hjl
          have zn : (n == n) = true := by simp
          have y0 : (0 : Int) ≤ (j : Int) := Int.natCast_nonneg j
          have y1 : (j : Int) < (L.length : Int) := Int.ofNat_lt.2 hjl
          clear h1 h2 hc
          go_wp2_with fail
          go_quiet (fail)
          go_wp2_with fail
          go_roundw
          case rel => exact ⟨j + 1, _, rfl, by omega, by go_num, Lib.hid (HJ.out.nothing ((Chg.refl _ _).drewN _))⟩
          case measure => simp [intOf]; omega
        · have d2 : decide ((j : Int) < (L.length : Int)) = false := decide_eq_false (by omega)
          go_wp2_with fail
          go_roundw
          case rel => exact ⟨k + 1, _, rfl, by omega, by go_num, Lib.hid HJ.out.pl⟩
          case measure => simp [intOf]; omega
    · have d1 : decide ((k : Int) < (rts.length : Int)) = false := decide_eq_false (by omega)
      have KG := y_get HR.out.r.y HF.out.2
      have KF := fun W (H : FY (fun i => i < w.heap.size ∨ Value.ownBlock (.slice la rts.length lc) = some i) W q p rq r F s s) => H.fields
      rw [HN.out] at KG KF
      generalize memStr s.V 0 N = str at *
      have KG := Lib.hid KG; have KF := Lib.hid KF
      obtain ⟨f0, g, f1, f2⟩ := KF.out _ HR.out.r.y
      have zs := tl_self str
      go_wp2_with fail
      refine KG.out.mono ?_
      rintro e w6 ⟨rfl, m6, c6⟩
      obtain ⟨f0, g, f1, f2⟩ := KF.out _ m6
      have B6 := Lib.hid (ADV.out _ _ (ADV.out _ _ B2.out HR.out.r.chg) (c6.mono (fun i a b => a (.inl b))))
      clear m6 c6
      go_wp2_with fail
      go_ret
      exact ⟨rfl, B6.out⟩
end Go.Proofs.YtodjmfmenfncdaaGreat
