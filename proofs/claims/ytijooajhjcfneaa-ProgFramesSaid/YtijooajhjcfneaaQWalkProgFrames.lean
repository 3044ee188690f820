/-
  The walk of the statement ProgFrames: true, for every input.
-/
import Derived.Test.YtijooajhjcfneaaQPgPure
import Derived.Test.YtijooajhjcfneaaQPgShown
namespace Go.Proofs.Ytijooajhjcfneaa
open Go.RowKit

def v64P : PS := ⟨frAll 0 64, fun _ => 0⟩
theorem v64_left : v64P.left 64 = 64 := by decide +kernel
theorem v64_top : v64P.top 64 = 0 := by decide +kernel
/-- what the calls of ProgFrames answer for a program -/
structure FrP (x : Prg) (a b m lf : Nat) (s4 s5 : PS) : Prop where
  load : ∀ S W q p, Pl S W q p 64 0 (frAll 0 64) (fun _ => 0) → Calls Try.prog 18 #[.pointer (some ⟨q, 0, none⟩), x.val] W fun e w' => e = .returned (.tuple #[.int .i64 0, .agg (hartC (256 + x.entry.toNat)), .int .u64 ((256 * (1 + a) + x.data.size + x.bss.toNat : Nat) : Int), .int .i64 0]) ∧ Pl S w' q p 64 0 s4.Fr s4.V ∧ Chg (fun k => ¬ S k) W w'
  pages : ∀ S W q p, Pl S W q p 64 0 s4.Fr s4.V → Calls Try.prog 19 #[.pointer (some ⟨q, 0, none⟩), .int .i64 0] W (PagesR S W q p 64 s4.Fr s4.V (progL m))
  left : ∀ S W q p, Pl S W q p 64 0 s4.Fr s4.V → Calls Try.prog 20 #[.pointer (some ⟨q, 0, none⟩)] W fun e w' => e = .returned (.int .i64 (lf : Nat)) ∧ W = w'
  free : ∀ S W q p, Pl S W q p 64 0 s4.Fr s4.V → Calls Try.prog 21 #[.pointer (some ⟨q, 0, none⟩), .int .i64 0] W (StepF S W q p 64 0 s5.Fr s5.V (.int .i64 0))
  left2 : ∀ S W q p, Pl S W q p 64 0 s5.Fr s5.V → Calls Try.prog 20 #[.pointer (some ⟨q, 0, none⟩)] W fun e w' => e = .returned (.int .i64 64) ∧ W = w'
  may : ∀ W, Calls Try.prog 15 #[x.val] W fun r w' => r = .returned (.bool true) ∧ Chg (fun _ => False) W w'
  size : ∀ W, Calls Try.prog 13 #[x.val] W fun r w' => r = .returned (.tuple #[.int .i64 (a : Nat), .int .i64 (b : Nat)]) ∧ Chg (fun _ => False) W w'
  hm : m = a + b
  hm28 : m ≤ 28
  hlf : lf = 52 - m
theorem FrP.of {x : Prg} (hsm : x.Small) (hx : x.may = true) : ∃ a b m lf s4 s5, FrP x a b m lf s4 s5 := by
  obtain ⟨m1, m2, m3, m4, m5, m6, m7, m8, m9, m10⟩ := may_nums hx
  obtain ⟨a, ha⟩ : ∃ a, a = pagesN x.text.size := ⟨_, rfl⟩
  obtain ⟨b, hb⟩ : ∃ b, b = pagesN (x.data.size + x.bss.toNat) := ⟨_, rfl⟩
  obtain ⟨m, hm⟩ : ∃ m, m = a + b := ⟨_, rfl⟩
  have hm28 : m ≤ 28 := by rw [hm, ha, hb]; unfold pagesN; omega
  have g0 : SG 64 v64P (fun _ => none) := good_start 64 _
  obtain ⟨R, f, h0, hl, hc⟩ := load_all (F := 64) (s := v64P) (by decide) g0 hx ha hb hm v64_left (by omega)
  rw [v64_top] at f h0 hc
  refine ⟨a, b, m, 52 - m, loadS 64 v64P x a b, (loadS 64 v64P x a b).off R 0, fun S W q p H => ?_, fun S W q p H => ?_, fun S W q p H => ?_, fun S W q p H => ?_, fun S W q p H => ?_, fun W => ?_, fun W => ?_, hm, hm28, rfl⟩
  · have k := p_load_yes (s := v64P) (R := fun _ => none) (x := x) (m := m) (by decide) H g0 hsm hx ha hb hm (by rw [v64_left]; omega) (rfl : loadS 64 v64P x a b = _)
    rw [v64_top] at k
    exact k.mono fun e w' ⟨h1, h2⟩ => ⟨h1, h2.pl, h2.chg⟩
  · have k := sp_pages H (by decide) f.g.wf 0 f.r
    rw [pagesL_prog f.g.wf f.r hm28 h0] at k
    exact k
  · have k := f_leftS H
    rw [hl, show 64 - (m + 12) = 52 - m by omega] at k
    exact k
  · exact sp_free H (by decide) f.g.wf 0 f.r
  · have k := f_leftS H
    rw [off_cntN f.g.wf, hl, hc, show 64 - (m + 12) + (m + 12) = 64 by omega] at k
    exact k
  · have k := q_may W x hsm
    rw [hx] at k
    exact k
  · have k := p_size W x hsm
    have e2 : sizeV2 x = .tuple #[.int .i64 (a : Nat), .int .i64 (b : Nat)] := by unfold sizeV2; rw [if_pos hx, ha, hb]
    rw [e2] at k
    exact k
theorem w64_small {x y : Int} (h : x = y) (h1 : -1000 ≤ y) (h2 : y ≤ 1000) : wrap64 x = y := by subst h; unfold wrap64; omega
theorem i64_small {x y : Int} (h : x = y) (h1 : -1000 ≤ y) (h2 : y ≤ 1000) : IntKind.i64.wrap x = y := i64_wrap_eq h (by omega)
theorem fr_nums (a b m lf n8 n12 : Nat) (hm : m = a + b) (hm28 : m ≤ 28) (hlf : lf = 52 - m) (hn8 : n8 = m + 8) (hn12 : n12 = m + 12) :
    (IntKind.i64.wrap ((a : Int) + (b : Int)) = (m : Int) ∧ IntKind.i64.wrap ((m : Int) + 8) = (n8 : Int) ∧ IntKind.i64.wrap ((n8 : Int) + 4) = (n12 : Int) ∧ IntKind.i64.wrap (64 - (lf : Int)) = (n12 : Int)) ∧
    wrap64 ((a : Int) + (b : Int)) = (m : Int) ∧ wrap64 ((m : Int) + 8) = (n8 : Int) ∧ wrap64 ((n8 : Int) + 4) = (n12 : Int) ∧ wrap64 (64 - (lf : Int)) = (n12 : Int) :=
  ⟨⟨i64_small (by omega) (by omega) (by omega), i64_small (by omega) (by omega) (by omega), i64_small (by omega) (by omega) (by omega), i64_small (by omega) (by omega) (by omega)⟩, w64_small (by omega) (by omega) (by omega), w64_small (by omega) (by omega) (by omega), w64_small (by omega) (by omega) (by omega), w64_small (by omega) (by omega) (by omega)⟩
set_option maxRecDepth 100000 in
set_option maxHeartbeats 1600000 in
theorem progFrames_yes (w : World) (en bs : Int) (text data : ByteArray) (a b m lf : Nat) (s4 s5 : PS) (K : FrP ⟨en, text, data, bs⟩ a b m lf s4 s5) :
    Calls Try.prog 5 #[.agg #[.int .i64 en, .string text, .string data, .int .i64 bs]] w fun e w' => e = .returned (.bool true) ∧ Below w.heap.size w w' := by
  obtain ⟨kl, kp, kf, kr, kg, km, ks, hm, hm28, hlf⟩ := K
  obtain ⟨n8, hn8⟩ : ∃ n8, n8 = m + 8 := ⟨_, rfl⟩
  obtain ⟨n12, hn12⟩ : ∃ n12, n12 = m + 12 := ⟨_, rfl⟩
  have hlen : (progL m).length = n8 := by rw [progL_len m hm28, hn8]
  have hpos : 0 < (progL m).length := by rw [hlen, hn8]; omega
  obtain ⟨⟨u1, u2, u3, u4⟩, v1, v2, v3, v4⟩ := fr_nums a b m lf n8 n12 hm hm28 hlf hn8 hn12
  have HPOS := Lib.hid hpos; have HLEN := Lib.hid hlen
  unfold Prg.val at kl km ks
  simp only at kl km ks
  generalize 256 + en.toNat = pc at *
  generalize ((256 * (1 + a) + data.size + bs.toNat : Nat) : Int) = br at *
  have KL := Lib.hid kl; have KP := Lib.hid kp; have KF := Lib.hid kf; have KR := Lib.hid kr; have KG := Lib.hid kg; have KM := Lib.hid km; have KS := Lib.hid ks
  have K1 := fun B W (H : MT B W B 64 (fun _ => 0)) => f_new H (by omega) 0 (by omega)
  unfold NewF at K1
  rw [show ((0 : Nat) : Int) = 0 from rfl] at K1
  have K0 := Lib.hid (fun W => s_new W.heap.size W (Nat.le_refl _) 64 (by omega) (by omega))
  rw [show (64 : Int).toNat = 64 from rfl] at K0
  have K1 := Lib.hid K1
  have X0 := Lib.hid (Blk.new w #[.int .i64 en, .string text, .string data, .int .i64 bs] 23)
  have C0 := Lib.hid (show Chg (fun _ => False) w (w.alloc (.cells #[.int .i64 en, .string text, .string data, .int .i64 bs] 23)) from (Chg.refl _ w).alloc _)
  clear kl kp kf kr kg km ks hm hm28 hlf hn8 hn12 hlen hpos
  go_enter Try.func5, Try.ntmps5
  go_wp2_with fail
  refine (p_shown _).mono ?_
  rintro e w1 ⟨rfl, b1⟩
  have X1 := Lib.hid ((chg_of_below b1).blk X0.out (fun a => a)); have C1 := Lib.hid (C0.out.trans (chg_of_below b1)); clear b1
  have HW := Lib.hid (show w.heap.size < w1.heap.size from X1.out.lt)
  have BW := Lib.hid (C1.out.below (Nat.le_refl _) (fun _ h => h.elim))
  go_wp2_with fail
  refine (K0.out w1).mono ?_
  rintro e w2 ⟨rfl, m1, b1⟩
  have M1 := Lib.hid (show MT w1.heap.size w2 w1.heap.size 64 (fun _ => 0) from ⟨0, by omega, m1⟩); have B1 := Lib.hid b1; clear m1 b1
  go_wp2_with fail
  refine (K1.out _ w2 M1.out).mono ?_
  rintro e w3 ⟨q, rfl, m1, b1⟩
  have M2 := Lib.hid m1; have B2 := Lib.hid (B1.out.trans b1); clear m1 b1
  have ADV := Lib.hid (fun (W W' : World) (h : Below w1.heap.size w1 W) (c : Chg (fun k => ¬ k < w1.heap.size) W W') => h.trans (c.below h.size (fun _ h => Nat.le_of_not_lt h)))
  have XB := Lib.hid (fun (W : World) (h : Below w1.heap.size w1 W) => show Blk W w.heap.size #[.int .i64 en, .string text, .string data, .int .i64 bs] 23 from (h.block _ HW.out).trans X1.out)
  generalize w1.heap.size = B at *
  have X3 := Lib.hid (XB.out w3 B2.out)
  have y0 := X3.out.cellv 0 _ rfl; have y1 := X3.out.cellv 1 _ rfl; have y2 := X3.out.cellv 2 _ rfl; have y3 := X3.out.cellv 3 _ rfl
  go_wp2_with fail
  refine (KL.out _ w3 q B M2.out).mono ?_
  rintro e w4 ⟨rfl, m4, c4⟩
  have M4 := Lib.hid m4; have B4 := Lib.hid (ADV.out _ _ B2.out c4)
  clear m4 c4 y0 y1 y2 y3
  have c5 : Chg (fun k => ¬ k < B) w4 (w4.alloc (.cells (hartC pc) 47)) := (Chg.refl _ w4).alloc _
  have M5 := Lib.hid (M4.out.nothing ((Chg.refl _ w4).alloc (.cells (hartC pc) 47))); have B5 := Lib.hid (ADV.out _ _ B4.out c5)
  have X5 := Lib.hid (XB.out _ B5.out)
  have y0 := X5.out.cellv 0 _ rfl; have y1 := X5.out.cellv 1 _ rfl; have y2 := X5.out.cellv 2 _ rfl; have y3 := X5.out.cellv 3 _ rfl
  clear c5
  go_wp2_with (refine wpList_store_fresh rfl 47 (.tmp 9) (.tmp 34) rfl (hartC pc) rfl rfl (by as_aux_lemma => kernel_rfl) (by as_aux_lemma => kernel_rfl) (by as_aux_lemma => kernel_rfl) ?_)
  clear y0 y1 y2 y3
  generalize w4.alloc (.cells (hartC pc) 47) = w5 at *
  refine (KM.out w5).mono ?_
  rintro e w6 ⟨rfl, c⟩
  have M6 := Lib.hid (M5.out.nothing c); have B6 := Lib.hid (ADV.out _ _ B5.out (c.mono fun _ a => a.elim)); clear c
  have X6 := Lib.hid (XB.out _ B6.out)
  have y0 := X6.out.cellv 0 _ rfl; have y1 := X6.out.cellv 1 _ rfl; have y2 := X6.out.cellv 2 _ rfl; have y3 := X6.out.cellv 3 _ rfl
  go_wp2_with fail
  refine (KS.out w6).mono ?_
  rintro e w7 ⟨rfl, c⟩
  have M7 := Lib.hid (M6.out.nothing c); have B7 := Lib.hid (ADV.out _ _ B6.out (c.mono fun _ a => a.elim)); clear c y0 y1 y2 y3
  go_wp2_with fail
  refine (KP.out _ w7 q B M7.out).mono ?_
  rintro e w8 ⟨sv, rfl, u8, p8, c8⟩
  obtain ⟨g, cap, rfl, z1, z2⟩ := u8.form HPOS.out
  rw [HLEN.out]
  have M8 := Lib.hid (p8.weak (S' := fun k => k < B) fun k h => .inl h); have B8 := Lib.hid (ADV.out _ _ B7.out c8)
  clear u8 p8 c8 z1 z2
  go_wp2_with fail
  refine (KF.out _ w8 q B M8.out).mono ?_
  rintro e wq ⟨rfl, rfl⟩
  go_wp2_with fail
  refine (KR.out _ w8 q B M8.out).mono ?_
  rintro e w9 ⟨rfl, m9, c9⟩
  have M9 := Lib.hid m9; have B9 := Lib.hid (ADV.out _ _ B8.out c9); clear m9 c9
  go_wp2_with fail
  refine (KG.out _ w9 q B M9.out).mono ?_
  rintro e wq ⟨rfl, rfl⟩
  go_wp2_with fail
  go_ret
  exact ⟨rfl, BW.out.trans (B9.out.mono (Nat.le_of_lt HW.out))⟩
set_option maxRecDepth 100000 in
set_option maxHeartbeats 1600000 in
theorem progFrames_no (w : World) (en bs : Int) (text data : ByteArray) (kl : ∀ W q, Calls Try.prog 18 #[.pointer (some ⟨q, 0, none⟩), .agg #[.int .i64 en, .string text, .string data, .int .i64 bs]] W fun e w' => e = .returned (loadE 6) ∧ Chg (fun _ => False) W w')
    (km : ∀ W, Calls Try.prog 15 #[.agg #[.int .i64 en, .string text, .string data, .int .i64 bs]] W fun r w' => r = .returned (.bool false) ∧ Chg (fun _ => False) W w') :
    Calls Try.prog 5 #[.agg #[.int .i64 en, .string text, .string data, .int .i64 bs]] w fun e w' => e = .returned (.bool true) ∧ Below w.heap.size w w' := by
  have KL := Lib.hid kl; have KM := Lib.hid km
  have K1 := fun B W (H : MT B W B 64 (fun _ => 0)) => f_new H (by omega) 0 (by omega)
  unfold NewF at K1
  rw [show ((0 : Nat) : Int) = 0 from rfl] at K1
  have K0 := Lib.hid (fun W => s_new W.heap.size W (Nat.le_refl _) 64 (by omega) (by omega))
  rw [show (64 : Int).toNat = 64 from rfl] at K0
  have K1 := Lib.hid K1
  have X0 := Lib.hid (Blk.new w #[.int .i64 en, .string text, .string data, .int .i64 bs] 23)
  have C0 := Lib.hid (show Chg (fun _ => False) w (w.alloc (.cells #[.int .i64 en, .string text, .string data, .int .i64 bs] 23)) from (Chg.refl _ w).alloc _)
  clear kl km
  go_enter Try.func5, Try.ntmps5
  go_wp2_with fail
  refine (p_shown _).mono ?_
  rintro e w1 ⟨rfl, b1⟩
  have X1 := Lib.hid ((chg_of_below b1).blk X0.out (fun a => a)); have C1 := Lib.hid (C0.out.trans (chg_of_below b1)); clear b1
  have HW := Lib.hid (show w.heap.size < w1.heap.size from X1.out.lt)
  have BW := Lib.hid (C1.out.below (Nat.le_refl _) (fun _ h => h.elim))
  go_wp2_with fail
  refine (K0.out w1).mono ?_
  rintro e w2 ⟨rfl, m1, b1⟩
  have M1 := Lib.hid (show MT w1.heap.size w2 w1.heap.size 64 (fun _ => 0) from ⟨0, by omega, m1⟩); have B1 := Lib.hid b1; clear m1 b1
  go_wp2_with fail
  refine (K1.out _ w2 M1.out).mono ?_
  rintro e w3 ⟨q, rfl, m1, b1⟩
  have B2 := Lib.hid (B1.out.trans b1); clear m1 b1
  have ADV := Lib.hid (fun (W W' : World) (h : Below w1.heap.size w1 W) (c : Chg (fun k => ¬ k < w1.heap.size) W W') => h.trans (c.below h.size (fun _ h => Nat.le_of_not_lt h)))
  have XB := Lib.hid (fun (W : World) (h : Below w1.heap.size w1 W) => show Blk W w.heap.size #[.int .i64 en, .string text, .string data, .int .i64 bs] 23 from (h.block _ HW.out).trans X1.out)
  generalize w1.heap.size = B at *
  have X3 := Lib.hid (XB.out w3 B2.out)
  have y0 := X3.out.cellv 0 _ rfl; have y1 := X3.out.cellv 1 _ rfl; have y2 := X3.out.cellv 2 _ rfl; have y3 := X3.out.cellv 3 _ rfl
  go_wp2_with fail
  refine (KL.out w3 q).mono ?_
  rintro e w4 ⟨rfl, c4⟩
  have B4 := Lib.hid (ADV.out _ _ B2.out (c4.mono fun _ a => a.elim))
  clear c4 y0 y1 y2 y3
  have c5 : Chg (fun k => ¬ k < B) w4 (w4.alloc (.cells hart0 47)) := (Chg.refl _ w4).alloc _
  have B5 := Lib.hid (ADV.out _ _ B4.out c5)
  have X5 := Lib.hid (XB.out _ B5.out)
  have y0 := X5.out.cellv 0 _ rfl; have y1 := X5.out.cellv 1 _ rfl; have y2 := X5.out.cellv 2 _ rfl; have y3 := X5.out.cellv 3 _ rfl
  clear c5
  unfold loadE
  go_wp2_with (refine wpList_store_fresh rfl 47 (.tmp 9) (.tmp 34) rfl hart0 rfl rfl (by as_aux_lemma => kernel_rfl) (by as_aux_lemma => kernel_rfl) (by as_aux_lemma => kernel_rfl) ?_)
  clear y0 y1 y2 y3
  generalize w4.alloc (.cells hart0 47) = w5 at *
  refine (KM.out w5).mono ?_
  rintro e w6 ⟨rfl, c⟩
  have B6 := Lib.hid (ADV.out _ _ B5.out (c.mono fun _ a => a.elim)); clear c
  go_wp2_with fail
  go_ret
  exact ⟨rfl, BW.out.trans (B6.out.mono (Nat.le_of_lt HW.out))⟩
set_option maxRecDepth 100000 in
theorem progFrames_walk (w : World) (en : Int) (_w0 : (Lit.int .i64 en).wf = true) (text : ByteArray) (_w1 : text.size ≤ maxLen) (data : ByteArray) (_w2 : data.size ≤ maxLen) (bs : Int) (_w3 : (Lit.int .i64 bs).wf = true) :
    Calls Try.prog 5 #[.agg #[.int .i64 en, .string text, .string data, .int .i64 bs]] w fun e w' => e = .returned (.bool true) ∧ Below w.heap.size w w' := by
  have hsm : (⟨en, text, data, bs⟩ : Prg).Small := ⟨by unfold maxLen at _w1; exact _w1, by unfold maxLen at _w2; exact _w2⟩
  cases hm : (⟨en, text, data, bs⟩ : Prg).may with
  | true =>
    obtain ⟨a, b, m, lf, s4, s5, K⟩ := FrP.of hsm hm
    exact progFrames_yes w en bs text data a b m lf s4 s5 K
  | false =>
    have k1 := fun W q => p_load_form W q (⟨en, text, data, bs⟩ : Prg) hsm hm
    have k2 := fun W => q_may W (⟨en, text, data, bs⟩ : Prg) hsm
    rw [hm] at k2
    unfold Prg.val at k1 k2
    exact progFrames_no w en bs text data k1 k2
end Go.Proofs.Ytijooajhjcfneaa
