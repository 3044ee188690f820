/-
  The document's Load where the program may be: walked.
-/
import Derived.Test.YtijooajhjcfneaaGreatQPgQLoad
namespace Go.Proofs.YtijooajhjcfneaaGreat
open Go.RowKit

set_option maxRecDepth 100000 in
set_option maxHeartbeats 3200000 in
theorem q_load12 {S : Nat → Prop} {w : World} {rq r F : Nat} {s s4 : PS} {R : Roles} {x : Prg} {a b m : Nat} (hF : F ≤ 256) (h : RQ S w rq r F s.Fr s.V) (g : SG F s R) (hsm : x.Small) (hx : x.may = true) (ha : a = pagesN x.text.size) (hb : b = pagesN (x.data.size + x.bss.toNat)) (hm : m = a + b) (hl : m + 12 ≤ s.left F) (hs : loadS F s x a b = s4) :
    Calls Tryz.prog 14 #[.pointer (some ⟨rq, 0, none⟩), x.val] w fun e w' => e = .returned (.tuple #[.int .i64 (s.top F : Nat), .agg (hartC (256 + x.entry.toNat)), .int .u64 ((256 * (1 + a) + x.data.size + x.bss.toNat : Nat) : Int), .int .i64 0]) ∧ RQ S w' rq r F s4.Fr s4.V ∧ Chg (fun k => ¬ S k) w w' := by
  obtain ⟨m1, m2, m3, m4, m5, m6, m7, m8, m9, m10⟩ := may_nums hx
  have hm28 : m ≤ 28 := by rw [hm, ha, hb]; unfold pagesN; omega
  have ha8 : a ≤ 8 := by rw [ha]; unfold pagesN; omega
  have ha1 : 1 ≤ a := by rw [ha]; unfold pagesN; omega
  have K1 := fun W => q_may W x hsm
  rw [hx] at K1
  have K2 := fun W => q_size W x hsm
  have e2 : sizeV2 x = .tuple #[.int .i64 (a : Nat), .int .i64 (b : Nat)] := by unfold sizeV2; rw [if_pos hx, ha, hb]
  rw [e2] at K2
  have K3 := fun W (H : RQ (S2 S w) W rq r F s.Fr s.V) => q_left H hF
  have K4 := fun W => q_need12 W x hsm hx m (by rw [hm, ha, hb])
  have K5 := fun W (H : RQ (S2 S w) W rq r F s.Fr s.V) => q_take H hF (show 0 < s.left F by omega)
  have KT := fun k hk => dc_text (S := S2 S w) (rq := rq) (r := r) (x := x) hF g hm hm28 hl k hk
  have KD := fun z k hk hk2 => dc_data (S := S2 S w) (rq := rq) (r := r) (x := x) (z := z) hF g hm hm28 hl k hk hk2
  have KS := fun k hk => dc_stack (S := S2 S w) (rq := rq) (r := r) (x := x) hF g hm hm28 hl k hk
  have e0 : dcS F (s.top F) a (s.take F) x 0 = s.take F := dcS_low (Nat.zero_le _)
  have e4 : flN F (s.top F) 56 23 ⟨#[]⟩ (dcS F (s.top F) a (s.take F) x m) 8 = s4 := by rw [← hs, dcS_high (by omega), show m - a = b by omega]; rfl
  obtain ⟨D, hD⟩ : ∃ D : Nat → PS, D = dcS F (s.top F) a (s.take F) x := ⟨_, rfl⟩
  rw [← hD] at KT KD KS e0 e4
  obtain ⟨T, hT⟩ : ∃ T : Nat → PS, T = flN F (s.top F) 56 23 ⟨#[]⟩ (D m) := ⟨_, rfl⟩
  have eT0 : T 0 = D m := by rw [hT]; rfl
  rw [← hT] at KS e4
  obtain ⟨nd, hnd⟩ : ∃ nd, nd = m + 12 := ⟨_, rfl⟩
  rw [← hnd] at K4
  have d1 : decide (((s.left F : Nat) : Int) < ((nd : Nat) : Int)) = false := decide_eq_false (by omega)
  have d2 : decide (s.left F < nd) = false := decide_eq_false (by omega)
  have d3 : ¬ s.left F < nd := by omega
  have wab : IntKind.i64.wrap ((a : Int) + (b : Int)) = (m : Int) := i64_wrap_eq (by omega) (by omega)
  have wab2 : wrap64 ((a : Int) + (b : Int)) = (m : Int) := by unfold wrap64; omega
  generalize s.top F = root at *
  generalize s.left F = lf at *
  generalize s.take F = st at *
  obtain ⟨en, text, data, bs⟩ := x
  simp only at m1 m2 m3 m4 m5 m6 m7 m8 m9 m10 KT KD ⊢
  obtain ⟨bb, rfl⟩ := Int.eq_ofNat_of_zero_le m8
  obtain ⟨en, rfl⟩ := Int.eq_ofNat_of_zero_le m4
  simp only [Int.toNat_natCast]
  unfold Prg.val at *
  simp only at K1 K2 K4 ⊢
  have ST := LoK.startQ h #[.int .i64 (en : Nat), .string text, .string data, .int .i64 (bb : Nat)]
  have L0 := Lib.hid (show LQ S w #[.int .i64 (en : Nat), .string text, .string data, .int .i64 (bb : Nat)] rq r F s _ from ⟨ST.2, ST.1⟩)
  clear ST
  have KD := KD bb
  have hadd := fun W => add_fit W data (zerosB bb) (by rw [zerosB_size]; omega)
  rw [show data ++ zerosB bb = dzB data bb from rfl] at hadd
  obtain ⟨dz, hdz⟩ : ∃ dz, dzB data bb = dz := ⟨_, rfl⟩
  have hdl : dz.size = data.size + bb := by rw [← hdz, dzB_size]
  rw [hdz] at hadd KD
  have mk := fun W => makeB W bb (by omega)
  have cv := fun W => convBd W bb (by omega)
  have KT := Lib.hid KT; have KD := Lib.hid KD; have KS := Lib.hid KS
  have K1 := Lib.hid K1; have K2 := Lib.hid K2; have K3 := Lib.hid K3; have K4 := Lib.hid K4; have K5 := Lib.hid K5
  have HN := Lib.hid (And.intro m2 (And.intro m5 (And.intro m7 (And.intro m9 (And.intro ha8 (And.intro hm28 (And.intro ha1 hm)))))))
  have HZ := Lib.hid hdl
  have HE := Lib.hid (And.intro e0 (And.intro eT0 e4))
  generalize zerosB bb = ZB at *
  clear h g hsm hx ha hb hl hs e2 hF m1 m2 m3 m4 m5 m6 m7 m8 m9 m10 hm28 ha1 ha8 hnd hm hD hT hdz hdl e0 eT0 e4
  go_enter Tryz.func14, Tryz.ntmps14
  go_wp2_with fail
  refine (K1.out _).mono ?_
  rintro e w1 ⟨rfl, c1⟩
  have L1 := Lib.hid (L0.out.none c1)
  clear c1
  have D1 := Lib.hid (L1.out.none (Chg.refl _ _).drew)
  have cT := D1.out.l.cells
  have K3d := Lib.hid (K3.out _ D1.out.q)
  go_wp2_with fail
  go_region_held3 (fun w' => w'.cell? ⟨w.heap.size, 0, none⟩ = some (.int .i64 (en : Nat)) ∧ w'.cell? ⟨w.heap.size, 1, none⟩ = some (.string text) ∧ w'.cell? ⟨w.heap.size, 2, none⟩ = some (.string data) ∧ w'.cell? ⟨w.heap.size, 3, none⟩ = some (.int .i64 (bb : Nat))) (first | assumption | exact cT | (simp [*]; done))
    (first
      | (go_at_call 17; refine K3d.out.mono ?_; rintro e v1 ⟨rfl, hw⟩; rw [← hw]; clear hw)
      | (go_at_call 34; refine (K4.out _).mono ?_; rintro e w2 ⟨rfl, c2⟩; have L2 := Lib.hid (D1.out.none c2); have cT := L2.out.l.cells; clear c2))
  go_wp2_with fail
  obtain ⟨x0, x1, x2, x3⟩ := L2.out.l.cells
  go_wp2_with fail
  refine (K2.out _).mono ?_
  rintro e w3 ⟨rfl, c3⟩
  have L3 := Lib.hid (L2.out.none c3)
  clear c3 x0 x1 x2 x3
  go_wp2_with fail
  refine (K5.out _ L3.out.q).mono ?_
  rintro e w4 ⟨rfl, m4, c4⟩
  have L4 := Lib.hid (show LQ S w #[.int .i64 (en : Nat), .string text, .string data, .int .i64 (bb : Nat)] rq r F st w4 from ⟨m4, L3.out.l.step c4⟩)
  clear m4 c4
  obtain ⟨x0, x1, x2, x3⟩ := L4.out.l.cells
  go_wp2_with fail
  have L5 := Lib.hid (L4.out.none ((Chg.refl _ w4).alloc (.cells (zeros bb) ByT)).drew)
  have SN : (w4.alloc (.cells (zeros bb) ByT)).drew.cell? ⟨w.heap.size, 2, none⟩ = some (.string data) ∧ (w4.alloc (.cells (zeros bb) ByT)).drew.cell? ⟨w.heap.size, 3, none⟩ = some (.int .i64 (bb : Nat)) := ⟨L5.out.l.cells.2.2.1, L5.out.l.cells.2.2.2⟩
  refine wp_region_held_drew (S := (fun W => W.cell? ⟨w.heap.size, 2, none⟩ = some (.string data) ∧ W.cell? ⟨w.heap.size, 3, none⟩ = some (.int .i64 (bb : Nat)))) (by kernel_rfl) ⟨x2, x3⟩ (fun hHeld => ?_)
  refine takeL (i := 0) (v := ?_) rfl (by kernel_rfl) (by kernel_rfl) (by kernel_rfl) (fun _ _ _ h => h) (Or.inl ⟨by rfl, ?_⟩) (by assumption) ?_
  rotate_left
  · (intro W hSw; (try dsimp only at hSw); go_simp; try with_reducible rfl)
  try simp only [Act.put, List.setIfInBounds_toArray, List.set_cons_zero, List.set_cons_succ]
  refine takeL (i := 1) (v := ?_) rfl (by kernel_rfl) (by kernel_rfl) (by kernel_rfl) (fun _ _ _ h => h) (Or.inl ⟨by rfl, ?_⟩) (by assumption) ?_
  rotate_left
  · (intro W hSw; (try dsimp only at hSw); go_simp; try with_reducible rfl)
  try simp only [Act.put, List.setIfInBounds_toArray, List.set_cons_zero, List.set_cons_succ]
  refine takeL (i := 2) (v := ?_) rfl (by kernel_rfl) (by kernel_rfl) (by kernel_rfl) (fun _ _ _ h => h) (Or.inl ⟨by rfl, ?_⟩) (by assumption) ?_
  rotate_left
  · (intro W hSw; (try dsimp only at hSw); go_simp; try with_reducible rfl)
  try simp only [Act.put, List.setIfInBounds_toArray, List.set_cons_zero, List.set_cons_succ]
  refine takeL (i := 3) (v := ?_) rfl (by kernel_rfl) (by kernel_rfl) (by kernel_rfl) (fun _ _ _ h => h) (Or.inl ⟨by rfl, ?_⟩) (by assumption) ?_
  rotate_left
  · (intro W hSw; (try dsimp only at hSw); go_simp; try with_reducible rfl)
  try simp only [Act.put, List.setIfInBounds_toArray, List.set_cons_zero, List.set_cons_succ]
  refine readyL (i := 4) rfl (by kernel_rfl) (by rfl) (fun K hK => ?_)
  go_simp
  refine hK.out _ _ SN (fun hHeld2 => ?_)
  clear hK K hHeld
  try simp only [Act.put, List.setIfInBounds_toArray, List.set_cons_zero, List.set_cons_succ]
  refine readyL (i := 5) rfl (by kernel_rfl) (by rfl) (fun K hK => ?_)
  go_simp
  refine hK.out _ _ SN (fun hHeld2 => ?_)
  clear hK K
  try simp only [Act.put, List.setIfInBounds_toArray, List.set_cons_zero, List.set_cons_succ]
  refine takeL (i := 6) (v := ?_) rfl (by kernel_rfl) (by kernel_rfl) (by kernel_rfl) (fun _ _ _ h => h) (Or.inl ⟨by rfl, ?_⟩) (by assumption) ?_
  rotate_left
  · (intro W hSw; (try dsimp only at hSw); go_simp; try with_reducible rfl)
  try simp only [Act.put, List.setIfInBounds_toArray, List.set_cons_zero, List.set_cons_succ]
  refine takeL (i := 7) (v := ?_) rfl (by kernel_rfl) (by kernel_rfl) (by kernel_rfl) (fun _ _ _ h => h) (Or.inl ⟨by rfl, ?_⟩) (by assumption) ?_
  rotate_left
  · (intro W hSw; (try dsimp only at hSw); go_simp; try with_reducible rfl)
  try simp only [Act.put, List.setIfInBounds_toArray, List.set_cons_zero, List.set_cons_succ]
  refine wpAnyH_done (by kernel_rfl) ?_ _
  clear hHeld2 SN x0 x1 x2 x3 mk cv hadd
  generalize (w4.alloc (.cells (zeros bb) ByT)).drew = w5 at *
  go_wp2_with fail
  have WAB := Lib.hid (And.intro wab wab2)
  clear wab wab2 d1 d2 d3
  go_loopw [14] (fun i wr => ∃ i1 k : Nat, i1 = 1 + k ∧ k ≤ m ∧ i = .int .i64 (i1 : Nat) ∧ Hid (LQ S w #[.int .i64 (en : Nat), .string text, .string data, .int .i64 (bb : Nat)] rq r F (D k) wr)) (fun i _ => m + 1 - (intOf i).toNat)
  case atStart => exact ⟨1, 0, rfl, Nat.zero_le _, rfl, by rw [HE.out.1]; exact L5⟩
  case round =>
    obtain ⟨i1, k, hi1, hk, rfl, HL⟩ := hrel
    by_cases hlt : k < m
    · have d4 : decide ((i1 : Int) ≤ (m : Int)) = true := decide_eq_true (by omega)
      have d4' : decide (i1 ≤ m) = true := decide_eq_true (by omega)
      have d4'' : i1 ≤ m := by omega
      obtain ⟨_, _, _, _, ha8, hm28, ha1, hm⟩ := HN.out
      obtain ⟨f0, hf0⟩ : ∃ f0, f0 = 256 * k := ⟨_, rfl⟩
      have P1 := Lib.hid (And.intro (ql_1 k i1 hi1 (by omega)) (ql_2 k f0 hf0 (by omega)))
      obtain ⟨x0, x1, x2, x3⟩ := HL.out.l.cells
      by_cases hka : k < a
      · have d5 : decide ((a : Int) < (i1 : Int)) = false := decide_eq_false (by omega)
        have d6 : ¬ a < i1 := by omega
        obtain ⟨ms, gg, J, km, kw, glt, hJ, fin⟩ := KT.out k hka
        rw [← hf0] at kw hJ fin
        rw [← hi1] at km kw
        obtain ⟨y, hy⟩ : ∃ y, y = 256 * i1 := ⟨_, rfl⟩
        rw [← hy] at kw
        obtain ⟨z, hz⟩ : ∃ z, z = f0 + 256 := ⟨_, rfl⟩
        have htext.size : text.size ≤ 100000 := by have := HN.out.1; have := HN.out.2.2.1; have := HN.out.2.2.2.1; have := HZ.out; omega
        have KM := Lib.hid (km wr HL.out.q)
        have KW := Lib.hid kw
        have HG := Lib.hid (And.intro glt (And.intro hJ (And.intro fin (And.intro hz (And.intro htext.size (And.intro (show f0 ≤ 10000 by omega) (And.intro hy (show i1 ≤ 30 by omega))))))))
        have HK := Lib.hid (And.intro hi1 (And.intro hk hlt))
        have P3 := Lib.hid (And.intro (ql_4 f0 z hz (by omega)) (ql_2 i1 y hy (by omega)))
        clear km kw glt hJ fin hz htext.size hi1 hk hlt hka hf0 hm ha1 ha8 hm28 hy
        obtain ⟨wab, wab2⟩ := WAB.out
        obtain ⟨⟨p1, p2⟩, p3, p4⟩ := P1.out
        go_wp2_with fail
        refine KM.out.mono ?_
        rintro e w6 ⟨rfl, m6, c6⟩
        have L6 := Lib.hid (show LQ S w #[.int .i64 (en : Nat), .string text, .string data, .int .i64 (bb : Nat)] rq r F ⟨ms.Fr, qpV ms gg text f0 0⟩ w6 from ⟨by rw [qpV_zero]; exact m6, HL.out.l.step c6⟩)
        clear m6 c6 x0 x1 x2 x3
        go_wp2_with fail
        clear wab wab2 p1 p2 p3 p4
        go_loopw [18] (fun q wq => ∃ kk j : Nat, kk = f0 + j ∧ j ≤ J ∧ q = .int .i64 (kk : Nat) ∧ Hid (LQ S w #[.int .i64 (en : Nat), .string text, .string data, .int .i64 (bb : Nat)] rq r F ⟨ms.Fr, qpV ms gg text f0 j⟩ wq)) (fun q _ => f0 + J - (intOf q).toNat)
        case atStart => exact ⟨f0, 0, rfl, Nat.zero_le _, rfl, L6⟩
        case round =>
          obtain ⟨kk, j, hkk, hj, rfl, HJ⟩ := hrel
          obtain ⟨glt, hJ, fin, hz, htext.size, hf0, hy, hi30⟩ := HG.out
          by_cases hlt : j < J
          · have d7' : kk < z := by omega
            have d8' : kk < text.size := by omega
            have d7 : decide ((kk : Int) < (z : Int)) = true := decide_eq_true (by omega)
            have d8 : decide ((kk : Int) < (text.size : Int)) = true := decide_eq_true (by omega)
            obtain ⟨zz, hzz⟩ : ∃ zz, zz = y + j := ⟨_, rfl⟩
            obtain ⟨yy, hyy⟩ : ∃ yy, yy = y + kk := ⟨_, rfl⟩
            have e1 : y ≤ 100000 := by omega
            have e2 : kk ≤ 100000 := by omega
            have e3 : yy = zz + f0 := by omega
            have e4 : yy ≤ 1000000 := by omega
            have e5 : zz < 18446744073709551616 := by omega
            have Q1 := Lib.hid (And.intro (ql_5 y kk yy hyy e1 e2) (And.intro (ql_6 yy f0 zz e3 e4) (u64_wrap_lt zz e5)))
            have kw1 := KW.out wr j hlt
            rw [← hzz] at kw1
            have cM := HJ.out.q.cell
            have KW1 := Lib.hid (kw1 HJ.out.q)
            obtain ⟨ad, had⟩ : ∃ ad, ad = gg * 256 + j := ⟨_, rfl⟩
            rw [← had] at KW1
            have hadF : ad < F * 256 := by omega
            obtain ⟨z0, z1, z2⟩ := ix_nums hadF
            have y0 : (0 : Int) ≤ (kk : Int) := Int.natCast_nonneg _
            have y1 : (kk : Int) < (text.size : Int) := by omega
            have hbg := byt_get text kk d8'
            have NX := Lib.hid (show putV (qpV ms gg text f0 j) ad 1 (fun _ => byt text kk) = qpV ms gg text f0 (j + 1) from by rw [had, hkk]; exact qpV_next ms gg text f0 j)
            have HX := Lib.hid (And.intro hadF (And.intro hkk hlt))
            have N1 := Lib.hid (nd_s1' kk (kk + 1) rfl e2)
            clear kw1 hzz hyy had hadF hkk hlt glt hJ fin hz htext.size hf0 hy hi30 e1 e2 e3 e4 e5
            obtain ⟨⟨p9, p10⟩, p11, p12⟩ := P3.out
            obtain ⟨⟨q1, q2⟩, ⟨q3, q4⟩, q5⟩ := Q1.out
            go_wp2_with fail
            refine KW1.out.mono ?_
            rintro e w7 ⟨rfl, m7, c7⟩
            have M7 := Lib.hid (show LQ S w #[.int .i64 (en : Nat), .string text, .string data, .int .i64 (bb : Nat)] rq r F ⟨ms.Fr, qpV ms gg text f0 j⟩ w7 from ⟨m7, HJ.out.l.step c7⟩)
            obtain ⟨g, cR, cB, fB, m8, c8⟩ := m7.byte ad (byt text kk) HX.out.1 (byt_lt text kk)
            rw [NX.out] at m8
            rw [← hbg] at m8 c8
            have M8 := Lib.hid (show LQ S w #[.int .i64 (en : Nat), .string text, .string data, .int .i64 (bb : Nat)] rq r F ⟨ms.Fr, qpV ms gg text f0 (j + 1)⟩ _ from ⟨m8, M7.out.l.step c8⟩)
            have cM3 := M7.out.q.cell
            clear m7 c7 m8 c8 hbg cM q1 q2 q3 q4 q5 p9 p10 p11 p12
            go_wp2_with fail
            obtain ⟨n1, n2⟩ := N1.out
            go_region
            all_goals
              go_wp2_with fail
              go_roundw
              case rel => exact ⟨kk + 1, j + 1, by have := HX.out.2.1; clear n1 n2; omega, HX.out.2.2, by go_num, Lib.hid (M8.out.none (Chg.refl _ _).drew)⟩
              case measure => have := HX.out.2.1; have := HX.out.2.2; clear n1 n2; simp [intOf]; omega
          · obtain rfl : j = J := by omega
            have L7 := Lib.hid (show LQ S w #[.int .i64 (en : Nat), .string text, .string data, .int .i64 (bb : Nat)] rq r F (D (k + 1)) wr from fin ▸ HJ.out)
            have HIX := Lib.hid (And.intro hkk (And.intro hJ hz))
            have N2 := Lib.hid (nd_s1' i1 (i1 + 1) rfl (by clear hJ hz; omega))
            by_cases h256 : j = 256
            · have d7' : ¬ kk < z := by omega
              have d7 : decide ((kk : Int) < (z : Int)) = false := decide_eq_false (by omega)
              clear glt hJ fin hz htext.size hf0 hy hi30 hkk
              obtain ⟨⟨p9, p10⟩, p11, p12⟩ := P3.out
              obtain ⟨n3, n4⟩ := N2.out
              go_wp2_with fail
              clear p9 p10 p11 p12
              go_roundw
              case rel => exact ⟨i1 + 1, k + 1, by have := HK.out.1; clear n3 n4; omega, HK.out.2.2, by go_num, L7⟩
              case measure => have := HK.out.1; have := HK.out.2.2; clear n3 n4; simp [intOf]; omega
            · have d7' : kk < z := by omega
              have d7 : decide ((kk : Int) < (z : Int)) = true := decide_eq_true (by omega)
              have d8' : ¬ kk < text.size := by omega
              have d8 : decide ((kk : Int) < (text.size : Int)) = false := decide_eq_false (by omega)
              clear glt hJ fin hz htext.size hf0 hy hi30 hkk
              obtain ⟨⟨p9, p10⟩, p11, p12⟩ := P3.out
              obtain ⟨n3, n4⟩ := N2.out
              go_wp2_with fail
              clear p9 p10 p11 p12
              go_roundw
              case rel => exact ⟨i1 + 1, k + 1, by have := HK.out.1; clear n3 n4; omega, HK.out.2.2, by go_num, L7⟩
              case measure => have := HK.out.1; have := HK.out.2.2; clear n3 n4; simp [intOf]; omega
      · have d5 : decide ((a : Int) < (i1 : Int)) = true := decide_eq_true (by omega)
        have d6 : a < i1 := by omega
        obtain ⟨ms, gg, J, km, kw, glt, hJ, fin⟩ := KD.out k (by omega) hlt
        obtain ⟨c1, hc1⟩ : ∃ c1, c1 = k - a := ⟨_, rfl⟩
        rw [← hc1] at kw hJ fin
        obtain ⟨f1, hf1⟩ : ∃ f1, f1 = 256 * c1 := ⟨_, rfl⟩
        rw [← hf1] at kw hJ fin
        have P2 := Lib.hid (And.intro (ql_3 k a c1 hc1 (by omega) (by omega)) (ql_2 c1 f1 hf1 (by omega)))
        rw [← hi1] at km kw
        obtain ⟨y, hy⟩ : ∃ y, y = 256 * i1 := ⟨_, rfl⟩
        rw [← hy] at kw
        obtain ⟨z, hz⟩ : ∃ z, z = f1 + 256 := ⟨_, rfl⟩
        have hdz.size : dz.size ≤ 100000 := by have := HN.out.1; have := HN.out.2.2.1; have := HN.out.2.2.2.1; have := HZ.out; omega
        have KM := Lib.hid (km wr HL.out.q)
        have KW := Lib.hid kw
        have HG := Lib.hid (And.intro glt (And.intro hJ (And.intro fin (And.intro hz (And.intro hdz.size (And.intro (show f1 ≤ 10000 by omega) (And.intro hy (show i1 ≤ 30 by omega))))))))
        have HK := Lib.hid (And.intro hi1 (And.intro hk hlt))
        have P3 := Lib.hid (And.intro (ql_4 f1 z hz (by omega)) (ql_2 i1 y hy (by omega)))
        clear km kw glt hJ fin hz hdz.size hi1 hk hlt hka hf0 hm ha1 ha8 hm28 hc1 hf1 hy
        obtain ⟨wab, wab2⟩ := WAB.out
        obtain ⟨⟨p1, p2⟩, p3, p4⟩ := P1.out
        obtain ⟨⟨p5, p6⟩, p7, p8⟩ := P2.out
        go_wp2_with fail
        refine KM.out.mono ?_
        rintro e w6 ⟨rfl, m6, c6⟩
        have L6 := Lib.hid (show LQ S w #[.int .i64 (en : Nat), .string text, .string data, .int .i64 (bb : Nat)] rq r F ⟨ms.Fr, qpV ms gg dz f1 0⟩ w6 from ⟨by rw [qpV_zero]; exact m6, HL.out.l.step c6⟩)
        clear m6 c6 x0 x1 x2 x3
        go_wp2_with fail
        clear wab wab2 p1 p2 p3 p4 p5 p6 p7 p8
        go_loopw [18] (fun q wq => ∃ kk j : Nat, kk = f1 + j ∧ j ≤ J ∧ q = .int .i64 (kk : Nat) ∧ Hid (LQ S w #[.int .i64 (en : Nat), .string text, .string data, .int .i64 (bb : Nat)] rq r F ⟨ms.Fr, qpV ms gg dz f1 j⟩ wq)) (fun q _ => f1 + J - (intOf q).toNat)
        case atStart => exact ⟨f1, 0, rfl, Nat.zero_le _, rfl, L6⟩
        case round =>
          obtain ⟨kk, j, hkk, hj, rfl, HJ⟩ := hrel
          obtain ⟨glt, hJ, fin, hz, hdz.size, hf1, hy, hi30⟩ := HG.out
          by_cases hlt : j < J
          · have d7' : kk < z := by omega
            have d8' : kk < dz.size := by omega
            have d7 : decide ((kk : Int) < (z : Int)) = true := decide_eq_true (by omega)
            have d8 : decide ((kk : Int) < (dz.size : Int)) = true := decide_eq_true (by omega)
            obtain ⟨zz, hzz⟩ : ∃ zz, zz = y + j := ⟨_, rfl⟩
            obtain ⟨yy, hyy⟩ : ∃ yy, yy = y + kk := ⟨_, rfl⟩
            have e1 : y ≤ 100000 := by omega
            have e2 : kk ≤ 100000 := by omega
            have e3 : yy = zz + f1 := by omega
            have e4 : yy ≤ 1000000 := by omega
            have e5 : zz < 18446744073709551616 := by omega
            have Q1 := Lib.hid (And.intro (ql_5 y kk yy hyy e1 e2) (And.intro (ql_6 yy f1 zz e3 e4) (u64_wrap_lt zz e5)))
            have kw1 := KW.out wr j hlt
            rw [← hzz] at kw1
            have cM := HJ.out.q.cell
            have KW1 := Lib.hid (kw1 HJ.out.q)
            obtain ⟨ad, had⟩ : ∃ ad, ad = gg * 256 + j := ⟨_, rfl⟩
            rw [← had] at KW1
            have hadF : ad < F * 256 := by omega
            obtain ⟨z0, z1, z2⟩ := ix_nums hadF
            have y0 : (0 : Int) ≤ (kk : Int) := Int.natCast_nonneg _
            have y1 : (kk : Int) < (dz.size : Int) := by omega
            have hbg := byt_get dz kk d8'
            have NX := Lib.hid (show putV (qpV ms gg dz f1 j) ad 1 (fun _ => byt dz kk) = qpV ms gg dz f1 (j + 1) from by rw [had, hkk]; exact qpV_next ms gg dz f1 j)
            have HX := Lib.hid (And.intro hadF (And.intro hkk hlt))
            have N1 := Lib.hid (nd_s1' kk (kk + 1) rfl e2)
            clear kw1 hzz hyy had hadF hkk hlt glt hJ fin hz hdz.size hf1 hy hi30 e1 e2 e3 e4 e5
            obtain ⟨⟨p9, p10⟩, p11, p12⟩ := P3.out
            obtain ⟨⟨q1, q2⟩, ⟨q3, q4⟩, q5⟩ := Q1.out
            go_wp2_with fail
            refine KW1.out.mono ?_
            rintro e w7 ⟨rfl, m7, c7⟩
            have M7 := Lib.hid (show LQ S w #[.int .i64 (en : Nat), .string text, .string data, .int .i64 (bb : Nat)] rq r F ⟨ms.Fr, qpV ms gg dz f1 j⟩ w7 from ⟨m7, HJ.out.l.step c7⟩)
            obtain ⟨g, cR, cB, fB, m8, c8⟩ := m7.byte ad (byt dz kk) HX.out.1 (byt_lt dz kk)
            rw [NX.out] at m8
            rw [← hbg] at m8 c8
            have M8 := Lib.hid (show LQ S w #[.int .i64 (en : Nat), .string text, .string data, .int .i64 (bb : Nat)] rq r F ⟨ms.Fr, qpV ms gg dz f1 (j + 1)⟩ _ from ⟨m8, M7.out.l.step c8⟩)
            have cM3 := M7.out.q.cell
            clear m7 c7 m8 c8 hbg cM q1 q2 q3 q4 q5 p9 p10 p11 p12
            go_wp2_with fail
            obtain ⟨n1, n2⟩ := N1.out
            go_region
            all_goals
              go_wp2_with fail
              go_roundw
              case rel => exact ⟨kk + 1, j + 1, by have := HX.out.2.1; clear n1 n2; omega, HX.out.2.2, by go_num, Lib.hid (M8.out.none (Chg.refl _ _).drew)⟩
              case measure => have := HX.out.2.1; have := HX.out.2.2; clear n1 n2; simp [intOf]; omega
          · obtain rfl : j = J := by omega
            have L7 := Lib.hid (show LQ S w #[.int .i64 (en : Nat), .string text, .string data, .int .i64 (bb : Nat)] rq r F (D (k + 1)) wr from fin ▸ HJ.out)
            have HIX := Lib.hid (And.intro hkk (And.intro hJ hz))
            have N2 := Lib.hid (nd_s1' i1 (i1 + 1) rfl (by clear hJ hz; omega))
            by_cases h256 : j = 256
            · have d7' : ¬ kk < z := by omega
              have d7 : decide ((kk : Int) < (z : Int)) = false := decide_eq_false (by omega)
              clear glt hJ fin hz hdz.size hf1 hy hi30 hkk
              obtain ⟨⟨p9, p10⟩, p11, p12⟩ := P3.out
              obtain ⟨n3, n4⟩ := N2.out
              go_wp2_with fail
              clear p9 p10 p11 p12
              go_roundw
              case rel => exact ⟨i1 + 1, k + 1, by have := HK.out.1; clear n3 n4; omega, HK.out.2.2, by go_num, L7⟩
              case measure => have := HK.out.1; have := HK.out.2.2; clear n3 n4; simp [intOf]; omega
            · have d7' : kk < z := by omega
              have d7 : decide ((kk : Int) < (z : Int)) = true := decide_eq_true (by omega)
              have d8' : ¬ kk < dz.size := by omega
              have d8 : decide ((kk : Int) < (dz.size : Int)) = false := decide_eq_false (by omega)
              clear glt hJ fin hz hdz.size hf1 hy hi30 hkk
              obtain ⟨⟨p9, p10⟩, p11, p12⟩ := P3.out
              obtain ⟨n3, n4⟩ := N2.out
              go_wp2_with fail
              clear p9 p10 p11 p12
              go_roundw
              case rel => exact ⟨i1 + 1, k + 1, by have := HK.out.1; clear n3 n4; omega, HK.out.2.2, by go_num, L7⟩
              case measure => have := HK.out.1; have := HK.out.2.2; clear n3 n4; simp [intOf]; omega
    · have hkm : k = m := by omega
      have d4 : decide ((i1 : Int) ≤ (m : Int)) = false := decide_eq_false (by omega)
      have d4'' : ¬ i1 ≤ m := by omega
      have L8 := Lib.hid (show LQ S w #[.int .i64 (en : Nat), .string text, .string data, .int .i64 (bb : Nat)] rq r F (T 0) wr from by rw [HE.out.2.1, ← hkm]; exact HL.out)
      clear hi1 hk hlt hkm
      obtain ⟨wab, wab2⟩ := WAB.out
      go_wp2_with fail
      clear wab wab2 d4 d4''
      go_loopw [21] (fun q wq => ∃ kk k' : Nat, kk = 56 + k' ∧ k' ≤ 8 ∧ q = .int .i64 (kk : Nat) ∧ Hid (LQ S w #[.int .i64 (en : Nat), .string text, .string data, .int .i64 (bb : Nat)] rq r F (T k') wq)) (fun q _ => 64 - (intOf q).toNat)
      case atStart => exact ⟨56, 0, rfl, Nat.zero_le _, rfl, L8⟩
      case round =>
        obtain ⟨kk, k', hkk, hk', rfl, HTT⟩ := hrel
        by_cases h8 : k' < 8
        · have d9 : decide ((kk : Int) < 64) = true := decide_eq_true (by omega)
          have d9' : kk < 64 := by omega
          obtain ⟨ms, km, hms⟩ := KS.out k' h8
          rw [← hkk] at km
          have KM := Lib.hid (km wr HTT.out.q)
          have HK8 := Lib.hid (And.intro hkk h8)
          have N3 := Lib.hid (nd_s1' kk (kk + 1) rfl (by omega))
          clear km hkk hk' h8
          go_wp2_with fail
          refine KM.out.mono ?_
          rintro e w9 ⟨rfl, m9, c9⟩
          have L9 := Lib.hid (show LQ S w #[.int .i64 (en : Nat), .string text, .string data, .int .i64 (bb : Nat)] rq r F (T (k' + 1)) w9 from hms ▸ ⟨m9, HTT.out.l.step c9⟩)
          clear m9 c9 hms
          obtain ⟨n5, n6⟩ := N3.out
          go_wp2_with fail
          go_roundw
          case rel => exact ⟨kk + 1, k' + 1, by have := HK8.out.1; clear n5 n6; omega, HK8.out.2, by go_num, L9⟩
          case measure => have := HK8.out.1; have := HK8.out.2; clear n5 n6; simp [intOf]; omega
        · have d9 : decide ((kk : Int) < 64) = false := decide_eq_false (by omega)
          have d9' : ¬ kk < 64 := by omega
          obtain rfl : k' = 8 := by omega
          have L10 := Lib.hid (show LQ S w #[.int .i64 (en : Nat), .string text, .string data, .int .i64 (bb : Nat)] rq r F s4 wr from HE.out.2.2 ▸ HTT.out)
          clear hkk hk' h8
          obtain ⟨x0, x1, x2, x3⟩ := L10.out.l.cells
          obtain ⟨pc, hpc⟩ : ∃ pc, pc = 256 + en := ⟨_, rfl⟩
          obtain ⟨g1, g2, g3⟩ := ql_8 en pc hpc (by have := HN.out.2.1; have := HN.out.1; omega)
          have HPC := Lib.hid hpc
          clear hpc
          go_wp2_with (first | (refine wpList_buildTo rfl 29 _ rfl (some 130) rfl (hartZ pc) (by as_aux_lemma => kernel_rfl) ?_) | (refine wpList_store_fresh rfl 29 (.tmp 22) (.tmp 130) rfl (hartZ pc) rfl rfl (by as_aux_lemma => kernel_rfl) (by as_aux_lemma => kernel_rfl) (by as_aux_lemma => kernel_rfl) ?_))
          rw [hartZ_set]
          have c8 : Chg (fun _ => False) wr (wr.alloc (.cells (hartC pc) 29)) := (Chg.refl _ wr).alloc _
          have L11 := Lib.hid (L10.out.none c8)
          have C8 := Lib.hid c8
          have hg8 : Blk (wr.alloc (.cells (hartC pc) 29)) wr.heap.size (hartC pc) 29 := Blk.new _ _ _
          generalize wr.alloc (.cells (hartC pc) 29) = w8 at *
          clear x0 x1 x2 x3 c8
          have hS : Blk w8.drew wr.heap.size (hartC pc) 29 ∧ (∃ cs, Blk w8.drew (w.heap.size + 1) cs 29 ∧ cs.size = 35) := ⟨hg8, ⟨_, L11.out.l.r, rfl⟩⟩
          generalize hgg : wr.heap.size = g at *
          have HGG := Lib.hid hgg
          clear hgg hg8
          refine wp_region_held_drew (S := (fun W => Blk W g (hartC pc) 29 ∧ (∃ cs, Blk W (w.heap.size + 1) cs 29 ∧ cs.size = 35))) (by kernel_rfl) hS (fun hHeld => ?_)
          clear hS
          refine takeL (i := 0) (v := ?_) rfl (by kernel_rfl) (by kernel_rfl) (by kernel_rfl) (fun _ _ _ h => h) (Or.inl ⟨by rfl, ?_⟩) (by assumption) ?_
          rotate_left
          · (intro W hSw; (try dsimp only at hSw); go_simp; try with_reducible rfl)
          try simp only [Act.put, List.setIfInBounds_toArray, List.set_cons_zero, List.set_cons_succ]
          refine takeL (i := 2) (v := ?_) rfl (by kernel_rfl) (by kernel_rfl) (by kernel_rfl) (fun _ _ _ h => h) (Or.inl ⟨by rfl, ?_⟩) (by assumption) ?_
          rotate_left
          · (intro W hSw; (try dsimp only at hSw); go_simp; try with_reducible rfl)
          try simp only [Act.put, List.setIfInBounds_toArray, List.set_cons_zero, List.set_cons_succ]
          refine takeL (i := 3) (v := ?_) rfl (by kernel_rfl) (by kernel_rfl) (by kernel_rfl) (fun _ _ _ h => h) (Or.inl ⟨by rfl, ?_⟩) (by assumption) ?_
          rotate_left
          · (intro W hSw; (try dsimp only at hSw); go_simp; try with_reducible rfl)
          try simp only [Act.put, List.setIfInBounds_toArray, List.set_cons_zero, List.set_cons_succ]
          refine takeL (i := 4) (v := ?_) rfl (by kernel_rfl) (by kernel_rfl) (by kernel_rfl) (fun _ _ _ h => h) (Or.inl ⟨by rfl, ?_⟩) (by assumption) ?_
          rotate_left
          · (intro W hSw; (try dsimp only at hSw); go_simp; try with_reducible rfl)
          try simp only [Act.put, List.setIfInBounds_toArray, List.set_cons_zero, List.set_cons_succ]
          refine takeL (i := 5) (v := ?_) rfl (by kernel_rfl) (by kernel_rfl) (by kernel_rfl) (fun _ _ _ h => h) (Or.inl ⟨by rfl, ?_⟩) (by assumption) ?_
          rotate_left
          · (intro W hSw; (try dsimp only at hSw); go_simp; try with_reducible rfl)
          try simp only [Act.put, List.setIfInBounds_toArray, List.set_cons_zero, List.set_cons_succ]
          refine takeL (i := 6) (v := ?_) rfl (by kernel_rfl) (by kernel_rfl) (by kernel_rfl) (fun _ _ _ h => h) (Or.inl ⟨by rfl, ?_⟩) (by assumption) ?_
          rotate_left
          · (intro W hSw; (try dsimp only at hSw); go_simp; try with_reducible rfl)
          try simp only [Act.put, List.setIfInBounds_toArray, List.set_cons_zero, List.set_cons_succ]
          refine takeL (i := 7) (v := ?_) rfl (by kernel_rfl) (by kernel_rfl) (by kernel_rfl) (fun _ _ _ h => h) (Or.inl ⟨by rfl, ?_⟩) (by assumption) ?_
          rotate_left
          · (intro W hSw; (try dsimp only at hSw); go_simp; try with_reducible rfl)
          try simp only [Act.put, List.setIfInBounds_toArray, List.set_cons_zero, List.set_cons_succ]
          refine takeL (i := 8) (v := ?_) rfl (by kernel_rfl) (by kernel_rfl) (by kernel_rfl) (fun _ _ _ h => h) (Or.inl ⟨by rfl, ?_⟩) (by assumption) ?_
          rotate_left
          · (intro W hSw; (try dsimp only at hSw); go_simp; try with_reducible rfl)
          try simp only [Act.put, List.setIfInBounds_toArray, List.set_cons_zero, List.set_cons_succ]
          refine takeL (i := 1) (v := .agg (hartC pc)) rfl (by kernel_rfl) (by kernel_rfl) (by kernel_rfl) (fun _ _ _ h => h) ?_ (by assumption) ?_
          · refine yieldsIf_load_row (by rfl) 29 _ (by rfl) g (by rfl) 29 (hartC pc) _ ?_ Tryz.underlying29 ?_ ?_
            · intro W hW; exact hW.1
            · rfl
            · as_aux_lemma => kernel_rfl
          try simp only [Act.put, List.setIfInBounds_toArray, List.set_cons_zero, List.set_cons_succ]
          refine takeL (i := 9) (v := ?_) rfl (by kernel_rfl) (by kernel_rfl) (by kernel_rfl) (fun _ _ _ h => h) (Or.inl ⟨by rfl, ?_⟩) (by assumption) ?_
          rotate_left
          · (intro W hSw; (try dsimp only at hSw); go_simp; try with_reducible rfl)
          try simp only [Act.put, List.setIfInBounds_toArray, List.set_cons_zero, List.set_cons_succ]
          refine readyL (i := 10) rfl (by kernel_rfl) (by rfl) (fun K hK => ?_)
          obtain ⟨z1, ⟨cs, z2, z3⟩⟩ := hHeld
          refine wp_store_row 29 _ _ rfl (w.heap.size + 1) (hartC pc) rfl rfl 29 cs z2 (by as_aux_lemma => kernel_rfl) z3 (by as_aux_lemma => kernel_rfl) ?_
          refine hK.out _ _ ⟨z1.rowOther _ _ (by have := L10.out.l.r.lt; have := HGG.out; omega), ⟨_, z2.row _, rfl⟩⟩ (fun hHeld2 => ?_)
          clear hK K
          have hHeld := hHeld2
          clear hHeld2
          try simp only [Act.put, List.setIfInBounds_toArray, List.set_cons_zero, List.set_cons_succ]
          refine takeL (i := 11) (v := ?_) rfl (by kernel_rfl) (by kernel_rfl) (by kernel_rfl) (fun _ _ _ h => h) (Or.inl ⟨by rfl, ?_⟩) (by assumption) ?_
          rotate_left
          · (intro W hSw; (try dsimp only at hSw); go_simp; try with_reducible rfl)
          try simp only [Act.put, List.setIfInBounds_toArray, List.set_cons_zero, List.set_cons_succ]
          refine takeL (i := 12) (v := ?_) rfl (by kernel_rfl) (by kernel_rfl) (by kernel_rfl) (fun _ _ _ h => h) (Or.inl ⟨by rfl, ?_⟩) (by assumption) ?_
          rotate_left
          · (intro W hSw; (try dsimp only at hSw); go_simp; try with_reducible rfl)
          try simp only [Act.put, List.setIfInBounds_toArray, List.set_cons_zero, List.set_cons_succ]
          refine wpAnyH_done (by kernel_rfl) ?_ _
          clear hHeld g1 g2 g3
          rw [ql_7 a data.size bb dz.size HZ.out HN.out.2.2.2.2.1 HN.out.2.2.1 (by have := HN.out.2.2.2.1; omega)]
          go_wp2_with fail
          have z5 := z2.row (hartC pc)
          have c9 : Chg (fun k => k = w.heap.size + 1) wr (w8.drew.setRow (w.heap.size + 1) (hartC pc)) := (((C8.out.mono (fun _ h => h.elim)).drew).row _ _ (.inl rfl))
          have F1 : RQ S (w8.drew.setRow (w.heap.size + 1) (hartC pc)) rq r F s4.Fr s4.V := L10.out.q.beside (S' := S) c9 (fun k e => .inr (.inr e)) (fun k h => .inl (.inl h)) (fun k h => Nat.lt_of_lt_of_le (L10.out.q.lt k (.inl h)) c9.size)
          have F2 : Chg (fun k => ¬ S k) w (w8.drew.setRow (w.heap.size + 1) (hartC pc)) := (L11.out.l.c.drew).rowNew _ _ (Nat.le_succ _)
          obtain rfl : pc = 256 + en := HPC.out
          (try simp only [Exit.inBlock, Exit.then])
          refine bodyPost_ret (v := .tuple #[.int .i64 (root : Nat), .agg (hartC (256 + en)), .int .u64 ((256 * (1 + a) + data.size + bb : Nat) : Int), .int .i64 0]) ?_ rfl ⟨rfl, F1, F2⟩
          exact results_tctt (x := 4) (p := 5) (y := 6) (z := 7) (by rfl) _ _ (w.heap.size + 1) 29 (hartC (256 + en)) _ (by rfl) z5 Tryz.underlying29 rfl (by as_aux_lemma => kernel_rfl)
end Go.Proofs.YtijooajhjcfneaaGreat
