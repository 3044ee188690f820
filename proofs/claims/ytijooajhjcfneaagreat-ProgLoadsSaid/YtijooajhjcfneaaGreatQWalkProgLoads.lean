/-
  The walk of the statement ProgLoads: true, for every input.
-/
import Derived.Test.YtijooajhjcfneaaGreatQPgLoads
namespace Go.Proofs.YtijooajhjcfneaaGreat
open Go.RowKit

theorem pl_256 (F : Nat) (h : F ≤ 256) : IntKind.i64.wrap (256 * (F : Int)) = ((F * 256 : Nat) : Int) ∧ wrap64 (256 * (F : Int)) = ((F * 256 : Nat) : Int) := ⟨i64_wrap_eq (by omega) (by omega), by unfold wrap64; omega⟩
set_option maxRecDepth 100000 in
set_option maxHeartbeats 1600000 in
theorem progLoads_no (w : World) (size taken en bs : Int) (text data : ByteArray) (hc : ¬ (1 ≤ size ∧ size ≤ 256)) :
    Calls Tryz.prog 3 #[.int .i64 size, .int .i64 taken, .agg #[.int .i64 en, .string text, .string data, .int .i64 bs]] w fun e w' => e = .returned (.bool true) ∧ Below w.heap.size w w' := by
  have KT := fun W => ref_takes W size
  rw [decide_eq_false hc] at KT
  have kl := fun W => p_load_nil W (⟨en, text, data, bs⟩ : Prg)
  unfold Prg.val at kl
  have KT := Lib.hid KT; have KL := Lib.hid kl
  have X0 := Lib.hid (Blk.new w #[.int .i64 en, .string text, .string data, .int .i64 bs] 23)
  have C0 := Lib.hid (show Chg (fun _ => False) w (w.alloc (.cells #[.int .i64 en, .string text, .string data, .int .i64 bs] 23)) from (Chg.refl _ w).alloc _)
  clear kl hc
  go_enter Tryz.func3, Tryz.ntmps3
  go_wp2_with fail
  refine (p_shown _).mono ?_
  rintro e w1 ⟨rfl, b1⟩
  have X1 := Lib.hid ((chg_of_below b1).blk X0.out (fun a => a)); have C1 := Lib.hid (C0.out.trans (chg_of_below b1)); clear b1
  generalize w.heap.size = x2 at *
  go_wp2_with fail
  refine (KT.out w1).mono ?_
  rintro e w' ⟨rfl, rfl⟩
  have y0 := X1.out.cellv 0 _ rfl; have y1 := X1.out.cellv 1 _ rfl; have y2 := X1.out.cellv 2 _ rfl; have y3 := X1.out.cellv 3 _ rfl
  go_wp2_with fail
  refine (KL.out w1).mono ?_
  rintro e w2 ⟨rfl, c⟩
  have C2 := Lib.hid ((C1.out.trans c).alloc (.cells hart0 29)); clear c y0 y1 y2 y3
  unfold loadE
  go_wp2_with (refine wpList_store_fresh rfl 29 (.tmp 10) (.tmp 38) rfl hart0 rfl rfl (by as_aux_lemma => kernel_rfl) (by as_aux_lemma => kernel_rfl) (by as_aux_lemma => kernel_rfl) ?_)
  go_ret
  exact ⟨rfl, C2.out.below (Nat.le_refl _) (fun _ h => h.elim)⟩
/-- the pools' part of the law's world -/
structure PlW (B : Nat) (w1 : World) (q p rq r F : Nat) (s u : PS) (W : World) : Prop where
  f : FY (fun k => k < B) W q p rq r F s u
  b : Below B w1 W
theorem PlW.step {B : Nat} {w1 W W' : World} {q p rq r F : Nat} {s u s' u' : PS} {v : Value} {e : Ending} (h : PlW B w1 q p rq r F s u W) (hB : B = w1.heap.size) (k : StepY2 (fun k => k < B) W q p rq r F s' u' v e W') : PlW B w1 q p rq r F s' u' W' :=
  ⟨k.2.1, h.b.trans (k.2.2.below (hB ▸ h.b.size) (fun _ h => Nat.le_of_not_lt h))⟩
theorem PlW.go {B : Nat} {w1 W W' : World} {q p rq r F : Nat} {s u s' u' : PS} (h : PlW B w1 q p rq r F s u W) (hB : B = w1.heap.size) (f : FY (fun k => k < B) W' q p rq r F s' u') (c : Chg (fun k => ¬ k < B) W W') : PlW B w1 q p rq r F s' u' W' :=
  ⟨f, h.b.trans (c.below (hB ▸ h.b.size) (fun _ h => Nat.le_of_not_lt h))⟩
set_option maxRecDepth 100000 in
set_option maxHeartbeats 3200000 in
theorem progLoads_yes (w : World) (F N : Nat) (taken en bs : Int) (text data : ByteArray) (h1 : 1 ≤ F) (hF : F ≤ 256) (hN : N = min taken.toNat F) (s s' : PS) (hs : tkS F N = s) (root : Int) (hc : Array Value) (br e5 : Int) (K : LdP ⟨en, text, data, bs⟩ F s s' root hc br e5) :
    Calls Tryz.prog 3 #[.int .i64 (F : Nat), .int .i64 taken, .agg #[.int .i64 en, .string text, .string data, .int .i64 bs]] w fun e w' => e = .returned (.bool true) ∧ Below w.heap.size w w' := by
  obtain ⟨kpl, kql, hcs, hsz, hone⟩ := K
  unfold Prg.val at kpl kql
  simp only at kpl kql
  have KT := fun W => ref_takes W (F : Int)
  rw [decide_eq_true (show 1 ≤ (F : Int) ∧ (F : Int) ≤ 256 by omega)] at KT
  have K0 := fun W => s_new W.heap.size W (Nat.le_refl _) (F : Int) (by omega) (by omega)
  rw [show ((F : Int)).toNat = F from Int.toNat_natCast F] at K0
  have K1 := fun B W p (H : MT B W p F (fun _ => 0)) => f_new H hF 0 (Nat.zero_le _)
  unfold NewF at K1
  have K2 := fun W => ref_new W F hF
  have K3 := fun W r g (H : RM W r g F (fun _ => 0) 0) => rp_new W r g F 0 0 hF (fun _ => 0) H (Nat.zero_le _)
  have MADE := Lib.hid (fun B w w1 w2 q p r g (h : Pl (fun k => k < B) w q p F 0 (frAll 0 F) (fun _ => 0)) => FY.made (U := fun _ => 0) (u := 0) (w := w) (w1 := w1) (w2 := w2) (q := q) (p := p) (r := r) (g := g) h (by omega))
  rw [show ((0 : Nat) : Int) = 0 from rfl] at K1 K3
  have KTK := fun (B : Nat) W q p rq r (i : Nat) u (H : FY (fun k => k < B) W q p rq r F (tkS F i) u) => H.left (s' := tkS F (i + 1)) (fun S' hp => tk_p hp hF)
  have KTQ := fun (B : Nat) W q p rq r (i : Nat) (H : FY (fun k => k < B) W q p rq r F (tkS F (i + 1)) (tkS F i)) => H.right (u' := tkS F (i + 1)) (fun S' hq => tk_q hq hF)
  have KPL := fun (S : Nat → Prop) W q p rq r u (H : FY S W q p rq r F s u) => H.left (s' := s') (fun S' hp => kpl S' W q p hp)
  have KQL := fun (S : Nat → Prop) W q p rq r (H : FY S W q p rq r F s' s) => H.right (u' := s') (fun S' hq => kql S' W rq r hq)
  have KG := fun (S : Nat → Prop) W q p rq r (H : FY S W q p rq r F s' s') => y_get H hF
  have KLF := fun (S : Nat → Prop) W q p rq r (H : FY S W q p rq r F s' s') => y_left H
  have KRF := fun (S : Nat → Prop) W q p rq r (H : FY S W q p rq r F s' s') => y_leftR H hF
  obtain ⟨p1, p2⟩ := pl_256 F hF
  obtain ⟨big, hbig⟩ : ∃ big, big = F * 256 := ⟨_, rfl⟩
  have FLD := Lib.hid (fun (S : Nat → Prop) W q p rq r (H : FY S W q p rq r F s' s') => hbig ▸ H.fields)
  rw [← hbig] at p1 p2 KG
  obtain ⟨str, hstr⟩ : ∃ str, memStr s'.V 0 big = str := ⟨_, rfl⟩
  rw [hstr] at KG
  have FLD := Lib.hid (fun (S : Nat → Prop) W q p rq r (H : FY S W q p rq r F s' s') => hstr ▸ FLD.out S W q p rq r H)
  have HT := Lib.hid (show tkS F 0 = ps0 F from rfl)
  have HS := Lib.hid hs
  have HNN := Lib.hid hN
  have HF2 := Lib.hid hF
  have KT := Lib.hid KT; have K0 := Lib.hid K0; have K1 := Lib.hid K1; have K2 := Lib.hid K2; have K3 := Lib.hid K3; have KTK := Lib.hid KTK; have KTQ := Lib.hid KTQ; have KPL := Lib.hid KPL; have KQL := Lib.hid KQL; have KG := Lib.hid KG; have KLF := Lib.hid KLF; have KRF := Lib.hid KRF
  have P1 := Lib.hid (And.intro p1 p2)
  have HCS := Lib.hid hcs; have HSZ := Lib.hid hsz; have HONE := Lib.hid hone
  have X0 := Lib.hid (Blk.new w #[.int .i64 en, .string text, .string data, .int .i64 bs] 23)
  have C0 := Lib.hid (show Chg (fun _ => False) w (w.alloc (.cells #[.int .i64 en, .string text, .string data, .int .i64 bs] 23)) from (Chg.refl _ w).alloc _)
  clear kpl kql hcs hsz hone hs hN hbig hstr h1 hF p1 p2
  go_enter Tryz.func3, Tryz.ntmps3
  go_wp2_with fail
  refine (p_shown _).mono ?_
  rintro e w1 ⟨rfl, b1⟩
  have X1 := Lib.hid ((chg_of_below b1).blk X0.out (fun a => a)); have C1 := Lib.hid (C0.out.trans (chg_of_below b1)); clear b1
  have HW := Lib.hid (show w.heap.size < w1.heap.size from X1.out.lt)
  have BW := Lib.hid (C1.out.below (Nat.le_refl _) (fun _ h => h.elim))
  go_wp2_with fail
  refine (KT.out w1).mono ?_
  rintro e w' ⟨rfl, rfl⟩
  go_wp2_with fail
  refine (K0.out w1).mono ?_
  rintro e w2 ⟨rfl, m1, b1⟩
  have M1 := Lib.hid (show MT w1.heap.size w2 w1.heap.size F (fun _ => 0) from ⟨0, by omega, m1⟩); have B1 := Lib.hid b1; clear m1 b1
  go_wp2_with fail
  refine (K1.out _ w2 _ M1.out).mono ?_
  rintro e w3 ⟨q, rfl, m1, b1⟩
  have M2 := Lib.hid m1; have B2 := Lib.hid (B1.out.trans b1); clear m1 b1
  go_wp2_with fail
  refine (K2.out w3).mono ?_
  rintro e w4 ⟨rfl, m1, c1, h9⟩
  clear h9
  have M3 := Lib.hid m1; have C3 := Lib.hid c1; have B3 := Lib.hid (B2.out.trans (c1.below B2.out.size (fun _ h => h.elim))); clear m1 c1
  go_wp2_with fail
  refine (K3.out w4 _ _ M3.out).mono ?_
  rintro e w5 ⟨rfl, m1, c1⟩
  have M4 := Lib.hid (show PlW w1.heap.size w1 q w1.heap.size _ _ F (tkS F 0) (tkS F 0) w5 from ⟨MADE.out _ w3 w4 w5 q _ _ _ M2.out C3.out (by omega) (by omega) B2.out.size m1 c1, B3.out.trans (c1.below B3.out.size (fun _ h => h.elim))⟩); clear m1 c1

  have XB := Lib.hid (fun (W : World) (h : Below w1.heap.size w1 W) => show Blk W w.heap.size #[.int .i64 en, .string text, .string data, .int .i64 bs] 23 from (h.block _ HW.out).trans X1.out)
  go_wp2_with fail
  go_loopw [18] (fun i wr => ∃ k : Nat, k ≤ N ∧ i = .int .i64 (k : Nat) ∧ Hid (PlW w1.heap.size w1 q w1.heap.size (w4.heap.size + 1) (w3.heap.size + 1) F (tkS F k) (tkS F k) wr)) (fun i _ => N - (intOf i).toNat)
  case atStart => exact ⟨0, Nat.zero_le _, rfl, M4⟩
  case round =>
    obtain ⟨k, hk, rfl, HL⟩ := hrel
    have hN := HNN.out
    by_cases hlt : k < N
    · have d1 : decide ((k : Int) < taken) = true := decide_eq_true (by omega)
      have d2 : decide ((k : Int) < (F : Int)) = true := decide_eq_true (by omega)
      have d3 : k < F := by omega
      have d4 : (k : Int) < taken := by omega
      have HLT := Lib.hid hlt
      clear hN hlt
      go_wp2_with fail
      refine (KTK.out _ wr q _ _ _ k _ HL.out.f).mono ?_
      rintro e w6 ⟨rfl, f6, c6⟩
      have M6 := Lib.hid (HL.out.go rfl f6 c6 : PlW w1.heap.size w1 q w1.heap.size (w4.heap.size + 1) (w3.heap.size + 1) F (tkS F (k + 1)) (tkS F k) w6)
      clear f6 c6
      go_wp2_with fail
      refine (KTQ.out _ w6 q _ _ _ k M6.out.f).mono ?_
      rintro e w7 ⟨rfl, f7, c7⟩
      have M7 := Lib.hid (M6.out.go rfl f7 c7 : PlW w1.heap.size w1 q w1.heap.size (w4.heap.size + 1) (w3.heap.size + 1) F (tkS F (k + 1)) (tkS F (k + 1)) w7)
      clear f7 c7
      obtain ⟨n1, n2⟩ := nd_s1' k (k + 1) rfl (by have := HF2.out; clear d1 d2; omega)
      go_wp2_with fail
      go_roundw
      case rel => exact ⟨k + 1, HLT.out, by go_num, M7⟩
      case measure => have := HLT.out; clear n1 n2; simp [intOf]; omega
    · obtain rfl : k = N := by omega
      by_cases ht : (k : Int) < taken
      · have d1 : decide ((k : Int) < taken) = true := decide_eq_true ht
        have d2 : decide ((k : Int) < (F : Int)) = false := decide_eq_false (by omega)
        have d3 : ¬ k < F := by omega
        clear hN hlt hk
        have M9 := Lib.hid (show PlW w1.heap.size w1 q w1.heap.size _ _ F s s wr from HS.out ▸ HL.out)
        have X9 := Lib.hid (XB.out wr M9.out.b)
        have y0 := X9.out.cellv 0 _ rfl; have y1 := X9.out.cellv 1 _ rfl; have y2 := X9.out.cellv 2 _ rfl; have y3 := X9.out.cellv 3 _ rfl
        clear HL
        go_wp2_with fail
        refine (KPL.out _ wr q _ _ _ _ M9.out.f).mono ?_
        rintro e w10 ⟨rfl, f10, c10⟩
        have M10 := Lib.hid (M9.out.go rfl f10 c10 : PlW w1.heap.size w1 q w1.heap.size _ _ F s' s w10)
        have F11 := Lib.hid (f10.boxed ((Chg.refl _ w10).alloc (.cells hc 29)) (by simp))
        have b20 := Lib.hid (Blk.new w10 hc 29)
        have B11 := Lib.hid (M10.out.b.trans (((Chg.refl (fun _ => False) w10).alloc (.cells hc 29)).below M10.out.b.size (fun _ h => h.elim)))
        have X11 := Lib.hid (XB.out _ B11.out)
        clear f10 c10 y0 y1 y2 y3
        have y0 := X11.out.cellv 0 _ rfl; have y1 := X11.out.cellv 1 _ rfl; have y2 := X11.out.cellv 2 _ rfl; have y3 := X11.out.cellv 3 _ rfl
        go_wp2_with (refine wpList_store_fresh rfl 29 (.tmp 20) (.tmp 78) rfl hc rfl rfl (by rw [HSZ.out]; exact hart_size) (by rw [HSZ.out]; rfl) HONE.out ?_)
        clear y0 y1 y2 y3
        generalize w10.alloc (.cells hc 29) = w11 at *
        generalize w10.heap.size = g20 at *
        refine (KQL.out _ w11 q _ _ _ F11.out).mono ?_
        rintro e w12 ⟨rfl, f12, c12⟩
        have Y12 := Lib.hid (c12.blk b20.out (fun a => a (.inr rfl)))
        have B12 := Lib.hid (B11.out.trans ((c12.mono (fun k a b => a (.inl b)) : Chg (fun k => ¬ k < w1.heap.size) w11 w12).below B11.out.size (fun _ h => Nat.le_of_not_lt h)))
        have F13 := Lib.hid (f12.boxed ((Chg.refl _ w12).alloc (.cells hc 29)) (by simp))
        have Z13 := Lib.hid (Blk.new w12 hc 29)
        have Y13 := Lib.hid (Y12.out.alloc (.cells hc 29))
        have B13 := Lib.hid (B12.out.trans (((Chg.refl (fun _ => False) w12).alloc (.cells hc 29)).below B12.out.size (fun _ h => h.elim)))
        obtain ⟨p1, p2⟩ := P1.out
        clear f12 c12
        go_wp2_with (refine wpList_store_fresh rfl 29 (.tmp 24) (.tmp 86) rfl hc rfl rfl (by rw [HSZ.out]; exact hart_size) (by rw [HSZ.out]; rfl) HONE.out ?_)
        clear p1 p2
        generalize w12.alloc (.cells hc 29) = w13 at *
        generalize w12.heap.size = g24 at *
        refine (KG.out _ w13 q _ _ _ F13.out).mono ?_
        rintro e w14 ⟨rfl, f14, c14⟩
        have Y14 := Lib.hid (c14.blk Y13.out (fun a => a (.inl (.inr rfl))))
        have Z14 := Lib.hid (c14.blk Z13.out (fun a => a (.inr rfl)))
        have B14 := Lib.hid (B13.out.trans ((c14.mono (fun k a b => a (.inl (.inl b))) : Chg (fun k => ¬ k < w1.heap.size) w13 w14).below B13.out.size (fun _ h => Nat.le_of_not_lt h)))
        have F14 := Lib.hid f14
        obtain ⟨cM, gg, cB, conv⟩ := FLD.out _ w14 q _ _ _ F14.out
        clear f14 c14
        go_wp2_with (first | (refine wpList_load_rowG (by rfl) 29 (.tmp 20) rfl g20 rfl 29 hc _ Y14.out Tryz.underlying29 rfl (by rw [HSZ.out]; exact hart_size) ?_) | (refine wpList_load_rowG (by rfl) 29 (.tmp 24) rfl g24 rfl 29 hc _ Z14.out Tryz.underlying29 rfl (by rw [HSZ.out]; exact hart_size) ?_) | (refine wpList_eqlG (by rfl) .eql 29 29 _ _ rfl hc true rfl rfl hart_guard (eql_hart _ hc HCS.out) (.inl rfl) ?_))
        refine (KLF.out _ w14 q _ _ _ F14.out).mono ?_
        rintro e wq ⟨rfl, hw⟩
        rw [← hw]
        clear hw wq
        go_wp2_with fail
        refine (KRF.out _ w14 q _ _ _ F14.out).mono ?_
        rintro e wq ⟨rfl, hw⟩
        rw [← hw]
        clear hw wq
        go_wp2_with fail
        go_ret
        exact ⟨rfl, BW.out.trans (B14.out.mono (Nat.le_of_lt HW.out))⟩
      · have d1 : decide ((k : Int) < taken) = false := decide_eq_false ht
        clear hN hlt hk
        have M9 := Lib.hid (show PlW w1.heap.size w1 q w1.heap.size _ _ F s s wr from HS.out ▸ HL.out)
        have X9 := Lib.hid (XB.out wr M9.out.b)
        have y0 := X9.out.cellv 0 _ rfl; have y1 := X9.out.cellv 1 _ rfl; have y2 := X9.out.cellv 2 _ rfl; have y3 := X9.out.cellv 3 _ rfl
        clear HL
        go_wp2_with fail
        refine (KPL.out _ wr q _ _ _ _ M9.out.f).mono ?_
        rintro e w10 ⟨rfl, f10, c10⟩
        have M10 := Lib.hid (M9.out.go rfl f10 c10 : PlW w1.heap.size w1 q w1.heap.size _ _ F s' s w10)
        have F11 := Lib.hid (f10.boxed ((Chg.refl _ w10).alloc (.cells hc 29)) (by simp))
        have b20 := Lib.hid (Blk.new w10 hc 29)
        have B11 := Lib.hid (M10.out.b.trans (((Chg.refl (fun _ => False) w10).alloc (.cells hc 29)).below M10.out.b.size (fun _ h => h.elim)))
        have X11 := Lib.hid (XB.out _ B11.out)
        clear f10 c10 y0 y1 y2 y3
        have y0 := X11.out.cellv 0 _ rfl; have y1 := X11.out.cellv 1 _ rfl; have y2 := X11.out.cellv 2 _ rfl; have y3 := X11.out.cellv 3 _ rfl
        go_wp2_with (refine wpList_store_fresh rfl 29 (.tmp 20) (.tmp 78) rfl hc rfl rfl (by rw [HSZ.out]; exact hart_size) (by rw [HSZ.out]; rfl) HONE.out ?_)
        clear y0 y1 y2 y3
        generalize w10.alloc (.cells hc 29) = w11 at *
        generalize w10.heap.size = g20 at *
        refine (KQL.out _ w11 q _ _ _ F11.out).mono ?_
        rintro e w12 ⟨rfl, f12, c12⟩
        have Y12 := Lib.hid (c12.blk b20.out (fun a => a (.inr rfl)))
        have B12 := Lib.hid (B11.out.trans ((c12.mono (fun k a b => a (.inl b)) : Chg (fun k => ¬ k < w1.heap.size) w11 w12).below B11.out.size (fun _ h => Nat.le_of_not_lt h)))
        have F13 := Lib.hid (f12.boxed ((Chg.refl _ w12).alloc (.cells hc 29)) (by simp))
        have Z13 := Lib.hid (Blk.new w12 hc 29)
        have Y13 := Lib.hid (Y12.out.alloc (.cells hc 29))
        have B13 := Lib.hid (B12.out.trans (((Chg.refl (fun _ => False) w12).alloc (.cells hc 29)).below B12.out.size (fun _ h => h.elim)))
        obtain ⟨p1, p2⟩ := P1.out
        clear f12 c12
        go_wp2_with (refine wpList_store_fresh rfl 29 (.tmp 24) (.tmp 86) rfl hc rfl rfl (by rw [HSZ.out]; exact hart_size) (by rw [HSZ.out]; rfl) HONE.out ?_)
        clear p1 p2
        generalize w12.alloc (.cells hc 29) = w13 at *
        generalize w12.heap.size = g24 at *
        refine (KG.out _ w13 q _ _ _ F13.out).mono ?_
        rintro e w14 ⟨rfl, f14, c14⟩
        have Y14 := Lib.hid (c14.blk Y13.out (fun a => a (.inl (.inr rfl))))
        have Z14 := Lib.hid (c14.blk Z13.out (fun a => a (.inr rfl)))
        have B14 := Lib.hid (B13.out.trans ((c14.mono (fun k a b => a (.inl (.inl b))) : Chg (fun k => ¬ k < w1.heap.size) w13 w14).below B13.out.size (fun _ h => Nat.le_of_not_lt h)))
        have F14 := Lib.hid f14
        obtain ⟨cM, gg, cB, conv⟩ := FLD.out _ w14 q _ _ _ F14.out
        clear f14 c14
        go_wp2_with (first | (refine wpList_load_rowG (by rfl) 29 (.tmp 20) rfl g20 rfl 29 hc _ Y14.out Tryz.underlying29 rfl (by rw [HSZ.out]; exact hart_size) ?_) | (refine wpList_load_rowG (by rfl) 29 (.tmp 24) rfl g24 rfl 29 hc _ Z14.out Tryz.underlying29 rfl (by rw [HSZ.out]; exact hart_size) ?_) | (refine wpList_eqlG (by rfl) .eql 29 29 _ _ rfl hc true rfl rfl hart_guard (eql_hart _ hc HCS.out) (.inl rfl) ?_))
        refine (KLF.out _ w14 q _ _ _ F14.out).mono ?_
        rintro e wq ⟨rfl, hw⟩
        rw [← hw]
        clear hw wq
        go_wp2_with fail
        refine (KRF.out _ w14 q _ _ _ F14.out).mono ?_
        rintro e wq ⟨rfl, hw⟩
        rw [← hw]
        clear hw wq
        go_wp2_with fail
        go_ret
        exact ⟨rfl, BW.out.trans (B14.out.mono (Nat.le_of_lt HW.out))⟩
theorem progLoads_walk (w : World) (size : Int) (_w0 : (Lit.int .i64 size).wf = true) (taken : Int) (_w1 : (Lit.int .i64 taken).wf = true) (en : Int) (_w2 : (Lit.int .i64 en).wf = true) (text : ByteArray) (_w3 : text.size ≤ maxLen) (data : ByteArray) (_w4 : data.size ≤ maxLen) (bs : Int) (_w5 : (Lit.int .i64 bs).wf = true) :
    Calls Tryz.prog 3 #[.int .i64 size, .int .i64 taken, .agg #[.int .i64 en, .string text, .string data, .int .i64 bs]] w fun e w' => e = .returned (.bool true) ∧ Below w.heap.size w w' := by
  have hsm : (⟨en, text, data, bs⟩ : Prg).Small := ⟨by unfold maxLen at _w3; exact _w3, by unfold maxLen at _w4; exact _w4⟩
  by_cases hc : 1 ≤ size ∧ size ≤ 256
  · obtain ⟨F, rfl⟩ := Int.eq_ofNat_of_zero_le (show 0 ≤ size by omega)
    have hF : F ≤ 256 := by omega
    obtain ⟨R, g⟩ := tk_good F (min taken.toNat F)
    obtain ⟨s', root, cs, br, e, K⟩ := LdP.of hF g hsm
    exact progLoads_yes w F (min taken.toNat F) taken en bs text data (by omega) hF rfl (tkS F (min taken.toNat F)) s' rfl root cs br e K
  · exact progLoads_no w size taken en bs text data hc
end Go.Proofs.YtijooajhjcfneaaGreat
