/-
  The walk of the statement SpaceTexts: true, for every input.
-/
import Derived.Test.YtodjmfmenfncdaaGreatQWalkSpacePlays
namespace Go.Proofs.YtodjmfmenfncdaaGreat
open Go.RowKit

theorem TxAt.mid {V : Nat → Nat} {F root at_ j i : Nat} {l : List UInt8} (h : TxAt V F root at_ j l) (hi : i < j) : ∃ a, tbAt V F root ((at_ + i) % 18446744073709551616) 1 = some a ∧ V a ≠ 0 := by
  obtain ⟨ys, h1, h2, h3⟩ := h
  have hl := adrs_len j ys h1
  exact ⟨_, adrs_get j ys h1 i (by omega), h3 _ (List.getElem_mem _)⟩
theorem TxAt.one {V : Nat → Nat} {F root at_ j : Nat} {l l' : List UInt8} (h : TxAt V F root at_ j l) (h' : TxAt V F root at_ j l') : l = l' := by
  obtain ⟨ys, h1, h2, h3⟩ := h
  obtain ⟨ys', h1', h2', h3'⟩ := h'
  rw [h1] at h1'
  cases h1'
  rw [h2, h2']
/-- what becomes of the i-th byte -/
theorem tx_step {V : Nat → Nat} {F root at_ m i : Nat} {s : ByteArray} {e : Int} {l : List UInt8} (h : TextR V F root at_ m s e) (hi : i ≤ m) (hl : TxAt V F root at_ i l) :
    (∃ a, tbAt V F root ((at_ + i) % 18446744073709551616) 1 = some a ∧ V a ≠ 0 ∧ (i = m → s = ⟨#[]⟩ ∧ e = 15)) ∨
    (tbAt V F root ((at_ + i) % 18446744073709551616) 1 = none ∧ s = ⟨#[]⟩ ∧ e = 3) ∨
    (∃ a, tbAt V F root ((at_ + i) % 18446744073709551616) 1 = some a ∧ V a = 0 ∧ s = ⟨l.toArray⟩ ∧ e = 0) := by
  obtain ⟨j, l0, hj, h0, c⟩ := h
  rcases Nat.lt_trichotomy i j with hlt | rfl | hlt
  · obtain ⟨a, ha, hv⟩ := h0.mid hlt
    exact .inl ⟨a, ha, hv, fun e => by omega⟩
  · have e0 := h0.one hl
    subst e0
    rcases c with ⟨c1, c2, c3⟩ | ⟨a, c1, c2, c3, c4⟩ | ⟨a, c1, c2, c3, c4, c5⟩
    · exact .inr (.inl ⟨c1, c2, c3⟩)
    · exact .inr (.inr ⟨a, c1, c2, c3, c4⟩)
    · exact .inl ⟨a, c1, c2, fun _ => ⟨c4, c5⟩⟩
  · exfalso
    obtain ⟨a, ha, hv⟩ := hl.mid hlt
    rcases c with ⟨c1, _⟩ | ⟨b, c1, c2, _⟩ | ⟨b, c1, c2, c3, _⟩
    · rw [ha] at c1; cases c1
    · rw [ha] at c1; cases c1; exact hv c2
    · omega
/-- one byte, read -/
theorem y_in1 {S : Nat → Prop} {w : World} {q p rq r F : Nat} {s u : PS} {R : Roles} (h : FY S w q p rq r F s u) (hF : F ≤ 256) (g : SG F s R) (root : Nat) (hr : R root = some (root, 3, 0)) (X : Nat) :
    Calls Tryz.prog 10 #[.pointer (some ⟨q, 0, none⟩), .int .i64 root, .int .u64 X, .int .i64 1] w (StepY2 S w q p rq r F s u (inR s.V (adrs s.V F root X 1 1))) := by
  have c : ∀ S', Pl S' w q p F 0 s.Fr s.V → Calls Tryz.prog 10 #[.pointer (some ⟨q, 0, none⟩), .int .i64 root, .int .u64 X, .int .i64 1] w (StepF S' w q p F 0 s.Fr s.V (inR s.V (adrs s.V F root X 1 1))) := fun S' hp => sp_in hp hF g.wf root hr X 1 (by omega)
  exact h.left c
theorem y_text1 {S : Nat → Prop} {w : World} {q p rq r F : Nat} {s u : PS} {R : Roles} (h : FY S w q p rq r F s u) (hF : F ≤ 256) (g : SG F s R) (root : Nat) (hr : R root = some (root, 3, 0)) (at_ m : Nat) (hm : m ≤ 4096) :
    Calls Tryz.prog 9 #[.pointer (some ⟨q, 0, none⟩), .int .i64 root, .int .u64 at_, .int .i64 m] w fun e w' => ∃ x : ByteArray × Int, TextR s.V F root at_ m x.1 x.2 ∧ StepY2 S w q p rq r F s u (.tuple #[.string x.1, .int .i64 x.2]) e w' :=
  h.leftX (v := fun x : ByteArray × Int => .tuple #[.string x.1, .int .i64 x.2]) (Q := fun x => TextR s.V F root at_ m x.1 x.2) fun S' hp => (sp_text hp hF g.wf root hr at_ m hm).mono fun _ _ ⟨a, b, h1, h2⟩ => ⟨(a, b), h1, h2⟩
theorem FY.small {S : Nat → Prop} {w : World} {q p rq r F : Nat} {s u : PS} (h : FY S w q p rq r F s u) : ∀ i, s.V i < 256 := by
  obtain ⟨S', _, hp, _⟩ := h.L
  exact hp.small9
theorem nil_size : (⟨#[]⟩ : ByteArray).toList = [] := by
  unfold ByteArray.toList
  rw [ByteArray.toList.loop, if_neg (by show ¬ 0 < 0; decide)]
  rfl
set_option maxRecDepth 100000 in
set_option maxHeartbeats 3200000 in
theorem spaceTexts_walk (w : World) (a0 : Option Addr) (len0 cap0 : Nat) (V0 : Nat → Nat → Value) (s0 : SRow w a0 len0 7 V0)
    (t0 : ∀ i, i < len0 → ∃ x : Int, V0 i 0 = .int .i64 x ∧ (Lit.int .i64 x).wf = true) (t1 : ∀ i, i < len0 → ∃ x : Int, V0 i 1 = .int .i64 x ∧ (Lit.int .i64 x).wf = true)
    (t2 : ∀ i, i < len0 → ∃ x : Int, V0 i 2 = .int .i64 x ∧ (Lit.int .i64 x).wf = true) (t3 : ∀ i, i < len0 → ∃ x : Int, V0 i 3 = .int .i64 x ∧ (Lit.int .i64 x).wf = true)
    (t4 : ∀ i, i < len0 → ∃ x : Int, V0 i 4 = .int .u64 x ∧ (Lit.int .u64 x).wf = true) (t5 : ∀ i, i < len0 → ∃ x : Int, V0 i 5 = .int .u64 x ∧ (Lit.int .u64 x).wf = true)
    (t6 : ∀ i, i < len0 → ∃ x : ByteArray, V0 i 6 = .string x ∧ x.size ≤ maxLen)
    (y0 : len0 * Tryz.prog.bytesOf 74 ≤ 140737488351232) (a1 : Int) (w1 : (Lit.int .u64 a1).wf = true) (most : Int) (_w2 : (Lit.int .i64 most).wf = true) :
    Calls Tryz.prog 3 #[.slice a0 len0 cap0, .int .u64 a1, .int .i64 most] w fun e w' => e = .returned (.bool true) ∧ Below w.heap.size w w' := by
  obtain ⟨at_, rfl, hat64⟩ := u64_nat' w1
  have hlen : len0 ≤ 9223372036854775807 := by
    have e : Tryz.prog.bytesOf 74 = 64 := by kernel_rfl
    rw [e] at y0; omega
  have KS := Lib.hid (sp_shown w)
  have KB := fun (W : World) (h : w.heap.size ≤ W.heap.size) => y_both w.heap.size W h 40
  rw [show sizF 40 = 40 from rfl] at KB
  have KB := Lib.hid KB
  have ACT := Lib.hid (fun (W : World) (h : Below w.heap.size w W) => acts_row s0 t0 t1 t2 t3 t4 t5 t6 h)
  clear s0 t0 t1 t2 t3 t4 t5 t6 y0 _w2 w1
  have KP := Lib.hid (fun (W : World) (q p rq r : Nat) (H : FY (fun k => k < w.heap.size) W q p rq r 40 (ps0 40) (ps0 40)) (hA : ActRow (fun k => k < w.heap.size) W a0 len0) => y_plays H (by decide) (good_start 40 _) a0 len0 cap0 hA hlen)
  have ADV := Lib.hid (fun (W W' : World) (h : Below w.heap.size w W) (c : Chg (fun k => ¬ k < w.heap.size) W W') => h.trans (c.below h.size (fun _ h => Nat.le_of_not_lt h)))
  clear hlen
  go_enter Tryz.func3, Tryz.ntmps3
  go_wp2_with fail
  refine KS.out.mono ?_
  rintro e w1 ⟨rfl, b1⟩
  have B1 := Lib.hid b1; clear b1
  go_wp2_with fail
  refine (KB.out w1 B1.out.size).mono ?_
  rintro e w2 ⟨q, p, rq, r, rfl, m2, b2⟩
  have M2 := Lib.hid m2; have B2 := Lib.hid (B1.out.trans b2); clear m2 b2
  go_wp2_with fail
  refine (KP.out w2 q p rq r M2.out (ACT.out w2 B2.out)).mono ?_
  rintro e w3 ⟨s, R, rts, sv, rfl, m3, _⟩
  obtain ⟨la, lc, rfl, _⟩ := nI_form m3.r.row
  have M3 := Lib.hid m3; clear m3
  have hr256 : rts.length ≤ 256 := M3.out.ok.small M3.out.g (by decide)
  have B3 := Lib.hid (ADV.out _ _ B2.out M3.out.r.chg)
  clear KS KB KP ACT B1 M2
  by_cases h0 : rts.length = 0
  · have z0 : ((rts.length : Int) == 0) = true := by rw [h0]; rfl
    go_wp2_with fail
    go_ret
    exact ⟨rfl, B3.out⟩
  have z0 : ((rts.length : Int) == 0) = false := by simpa using h0
  by_cases h1 : most < 0
  · have z1 : decide (most < (0 : Int)) = true := decide_eq_true h1
    go_wp2_with fail
    go_ret
    exact ⟨rfl, B3.out⟩
  have z1 : decide (most < (0 : Int)) = false := decide_eq_false h1
  by_cases h2 : 600 < most
  · have z2 : decide ((600 : Int) < most) = true := decide_eq_true h2
    go_wp2_with fail
    go_ret
    exact ⟨rfl, B3.out⟩
  have z2 : decide ((600 : Int) < most) = false := decide_eq_false h2
  obtain ⟨m, rfl⟩ := Int.eq_ofNat_of_zero_le (show 0 ≤ most by omega)
  have hm : m ≤ 600 := by omega
  obtain ⟨root, hrt⟩ : ∃ root, rts.getD 0 0 = root := ⟨_, rfl⟩
  have hroot : R root = some (root, 3, 0) := by
    rw [← hrt, getD_getElem rts 0 (by omega)]; exact M3.out.ok.is _ (List.getElem_mem _)
  have CELL := Lib.hid (fun (W : World) (H : PlaysI (fun k => k < w.heap.size) w2 q p rq r 40 rts (.slice la rts.length lc) s R W) => show ∃ gg, la = some ⟨gg, 0, none⟩ ∧ W.cell? ⟨gg, 0, none⟩ = some (.int .i64 (root : Nat)) from by
    obtain ⟨la2, lc2, hl, hroots⟩ := nI_form H.r.row
    obtain ⟨rfl, _, rfl⟩ := Value.slice.inj hl
    obtain ⟨gg, e1, _, e2⟩ := hroots 0 (by omega)
    exact ⟨gg, e1, by rw [← hrt]; exact e2⟩)
  obtain ⟨gg, rfl, cx⟩ := CELL.out _ M3.out
  have KT := Lib.hid (fun (S : Nat → Prop) (W : World) (H : FY S W q p rq r 40 s s) => y_text1 H (by decide) M3.out.g root hroot at_ m (by omega))
  have KI := Lib.hid (fun (S : Nat → Prop) (W : World) (H : FY S W q p rq r 40 s s) (X : Nat) => y_in1 H (by decide) M3.out.g root hroot X)
  have HSM := Lib.hid M3.out.r.y.small
  have hr0 : 0 < rts.length := by omega
  have STEP := Lib.hid (fun (W W' : World) (v : Value) (e : Ending) (H : PlaysI (fun k => k < w.heap.size) w2 q p rq r 40 rts (.slice (some ⟨gg, 0, none⟩) rts.length lc) s R W) (K : StepY2 (fun k => k < w.heap.size ∨ Value.ownBlock (.slice (some ⟨gg, 0, none⟩) rts.length lc) = some k) W q p rq r 40 s s v e W') => show PlaysI (fun k => k < w.heap.size) w2 q p rq r 40 rts (.slice (some ⟨gg, 0, none⟩) rts.length lc) s R W' from ⟨H.r.stepped K, H.g, H.ok⟩)
  clear hrt hroot h1 h2 hat64
  go_wp2_with fail
  refine (KT.out _ _ M3.out.r.y).mono ?_
  rintro e w4 ⟨⟨str, er⟩, htx, rfl, m4, c4⟩
  have M4 := Lib.hid (STEP.out _ _ (.int .u64 0) (.returned (.int .u64 0)) M3.out ⟨rfl, m4, c4⟩); clear m4 c4
  have TX := Lib.hid htx; clear htx
  go_wp2_with fail
  go_loopw [15, 16] (fun t i wr => ∃ (k : Nat) (W' : World) (l : List UInt8), W' = wr ∧ i = .int .i64 k ∧ t = .string ⟨l.toArray⟩ ∧ ((k ≤ m ∧ Hid (TxAt s.V 40 root at_ k l)) ∨ (k = m + 1 ∧ Hid (str = ⟨#[]⟩ ∧ er = 15))) ∧ Hid (PlaysI (fun k => k < w.heap.size) w2 q p rq r 40 rts (.slice (some ⟨gg, 0, none⟩) rts.length lc) s R W')) (fun _ i _ => m + 1 - (intOf i).toNat)
  case atStart => exact ⟨0, _, [], rfl, rfl, rfl, .inl ⟨Nat.zero_le _, Lib.hid (TxAt.start _ _ _ _)⟩, M4⟩
  case round =>
    obtain ⟨k, wr, l, rfl, rfl, rfl, hcase, HR⟩ := hrel
    rcases hcase with ⟨hk, HT⟩ | ⟨rfl, HE⟩
    · have d1 : decide ((k : Int) ≤ (m : Int)) = true := decide_eq_true (by omega)
      obtain ⟨t1, t2⟩ := at_wrap at_ k (by omega)
      obtain ⟨X, hX⟩ : ∃ X, X = (at_ + k) % 18446744073709551616 := ⟨_, rfl⟩
      rw [← hX] at t2
      obtain ⟨i1, i2⟩ := in_one (V := s.V) (F := 40) (root := root) (X := X) (by rw [hX]; exact modlt _)
      have KI1 := KI.out _ _ HR.out.r.y X
      obtain ⟨gg9, hg9, cx9⟩ := CELL.out _ HR.out
      cases hg9
      have hll := HT.out.len
      have hc := tx_step TX.out hk HT.out
      rw [← hX] at hc
      rcases hc with ⟨a, ha, hv, hend⟩ | ⟨ha, hs, he⟩ | ⟨a, ha, hv, hs, he⟩
      · have NX := Lib.hid (HT.out.next (by rw [← hX]; exact ha) hv)
        have hne := memStr_not (HSM.out a) hv
        have hsz := memStr_size s.V a 1
        rw [i2 a ha] at KI1
        generalize memStr s.V a 1 = s1 at *
        have hadd := fun W => add_str W l s1 (by omega) hsz
        have HEND := Lib.hid hend
        have KI1 := Lib.hid KI1
        clear i1 i2 hX ha hv hend hll hsz
        go_wp2_with fail
        refine KI1.out.mono ?_
        rintro e w5 ⟨rfl, m5, c5⟩
        have M5 := Lib.hid (STEP.out _ _ (.int .u64 0) (.returned (.int .u64 0)) HR.out ⟨rfl, m5, c5⟩); clear m5 c5 t1 t2
        go_wp2_with fail
        go_roundw
        case rel =>
          refine ⟨k + 1, _, _, rfl, by go_num, rfl, ?_, M5⟩
          by_cases hkm : k = m
          · exact .inr ⟨by omega, Lib.hid (HEND.out hkm)⟩
          · exact .inl ⟨by omega, NX⟩
        case measure => simp [intOf]; omega
      · rw [i1 ha] at KI1
        have KI1 := Lib.hid KI1
        have hs : str = ⟨#[]⟩ := hs
        have he : er = 3 := he
        subst hs
        subst he
        clear i1 i2 hX ha hll
        go_wp2_with fail
        refine KI1.out.mono ?_
        rintro e w5 ⟨rfl, m5, c5⟩
        have B5 := Lib.hid (ADV.out _ _ (ADV.out _ _ B2.out HR.out.r.chg) (c5.mono (fun i a b => a (.inl b)))); clear m5 c5 t1 t2
        go_wp2_with fail
        go_ret
        exact ⟨rfl, B5.out⟩
      · rw [i2 a ha, memStr_nought hv] at KI1
        have KI1 := Lib.hid KI1
        have hs : str = ⟨l.toArray⟩ := hs
        have he : er = 0 := he
        subst he
        have zs : (str.toList == (⟨l.toArray⟩ : ByteArray).toList) = true := by rw [hs]; exact tl_self _
        clear i1 i2 hX ha hll hs hv
        go_wp2_with fail
        refine KI1.out.mono ?_
        rintro e w5 ⟨rfl, m5, c5⟩
        have B5 := Lib.hid (ADV.out _ _ (ADV.out _ _ B2.out HR.out.r.chg) (c5.mono (fun i a b => a (.inl b)))); clear m5 c5 t1 t2
        go_wp2_with fail
        go_ret
        exact ⟨rfl, B5.out⟩
    · have d1 : decide (((m + 1 : Nat) : Int) ≤ (m : Int)) = false := decide_eq_false (by omega)
      have hs : str = ⟨#[]⟩ := HE.out.1
      have he : er = 15 := HE.out.2
      subst hs
      subst he
      have B5 := Lib.hid (ADV.out _ _ B2.out HR.out.r.chg)
      go_wp2_with fail
      go_ret
      exact ⟨rfl, B5.out⟩
end Go.Proofs.YtodjmfmenfncdaaGreat
