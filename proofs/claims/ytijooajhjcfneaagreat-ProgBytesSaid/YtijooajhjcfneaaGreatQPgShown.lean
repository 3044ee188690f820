/-
  The document's example of layer 12: true.
-/
import Derived.Test.YtijooajhjcfneaaGreatQPgLoad3
import Derived.Test.YtijooajhjcfneaaGreatQPgPages
import Derived.Test.YtijooajhjcfneaaGreatG26
import Derived.Deep.AppendLies
namespace Go.Proofs.YtijooajhjcfneaaGreat
open Go.RowKit

def x0P : Prg := ⟨0, ⟨#[97, 98, 99, 100]⟩, ⟨#[]⟩, 1⟩
theorem x0_may : x0P.may = true := by decide +kernel
theorem x0_small : x0P.Small := ⟨by decide, by decide⟩
def v0P : PS := ⟨frAll 0 32, fun _ => 0⟩
theorem v0_left : v0P.left 32 = 32 := by decide +kernel
theorem v0_top : v0P.top 32 = 0 := by decide +kernel
theorem x0_a : 1 = pagesN x0P.text.size := by decide
theorem x0_b : 1 = pagesN (x0P.data.size + x0P.bss.toNat) := by decide
theorem x0_load : ∃ s4 : PS, (∀ S W q p, Pl S W q p 32 0 (frAll 0 32) (fun _ => 0) → Calls Tryz.prog 7 #[.pointer (some ⟨q, 0, none⟩), .agg #[.int .i64 0, .string ⟨#[97, 98, 99, 100]⟩, .string ⟨#[]⟩, .int .i64 1]] W fun e w' => e = .returned (.tuple #[.int .i64 0, .agg (hartC 256), .int .u64 513, .int .i64 0]) ∧ LdI S W q p 32 0 2 s4 w') ∧
    ((∃ R, FI 32 0 (shQ 2) s4 R ∧ ∀ j, hasB 32 R 0 0 j = shQ 2 0 j) → ∀ S W q p, Pl S W q p 32 0 s4.Fr s4.V → Calls Tryz.prog 24 #[.pointer (some ⟨q, 0, none⟩), .int .i64 0] W (PagesR S W q p 32 s4.Fr s4.V [1, 2, 56, 57, 58, 59, 60, 61, 62, 63])) := by
  refine ⟨loadS 32 v0P x0P 1 1, fun S W q p H => ?_, fun HR S W q p hp => ?_⟩
  · have k := p_load_yes (s := v0P) (R := fun _ => none) (x := x0P) (m := 2) (by decide) H (good_start 32 _) x0_small x0_may x0_a x0_b rfl (by rw [v0_left]; decide) (rfl : loadS 32 v0P x0P 1 1 = _)
    rw [v0_top] at k
    exact k
  · obtain ⟨R, f, hb⟩ := HR
    have k := sp_pages hp (by decide) f.g.wf 0 f.r
    rw [pagesL_prog f.g.wf f.r (by decide) hb, progL_2] at k
    exact k
theorem hart_size : (Tryz.prog.info? 29).map (·.size) = some 35 := by kernel_rfl
set_option maxRecDepth 100000 in
set_option maxHeartbeats 1600000 in
theorem p_shown (w : World) : Calls Tryz.prog 5 #[] w fun e w' => e = .returned (.bool true) ∧ Below w.heap.size w w' := by
  have K0 := Lib.hid (s_new w.heap.size w (Nat.le_refl _) 32 (by omega) (by omega))
  have K1 := fun W (H : MT w.heap.size W w.heap.size 32 (fun _ => 0)) => f_new H (by omega) 0 (by omega)
  rw [show (32 : Int).toNat = 32 from rfl] at K0
  unfold NewF at K1
  rw [show ((0 : Nat) : Int) = 0 from rfl] at K1
  have KE := fun W => p_encode W x0P x0_small
  obtain ⟨s0, hs0⟩ : ∃ s0, encB x0P = s0 := ⟨_, rfl⟩
  have KD := fun W => p_decode W s0 (by rw [← hs0, encB_size]; decide)
  have e1 : encV x0P = .tuple #[.string s0, .int .i64 0] := by unfold encV; rw [if_pos x0_may, hs0]
  have e2 : decV s0 = .tuple #[.agg #[.int .i64 0, .string ⟨#[97, 98, 99, 100]⟩, .string ⟨#[]⟩, .int .i64 1], .int .i64 0] := by rw [← hs0, decV_yes (IsF.of x0_may), xOf_enc x0_may]; rfl
  rw [e1] at KE
  rw [e2] at KD
  have e3 : x0P.val = .agg #[.int .i64 0, .string ⟨#[97, 98, 99, 100]⟩, .string ⟨#[]⟩, .int .i64 1] := rfl
  rw [e3] at KE
  obtain ⟨s4, KL, KP⟩ := x0_load
  obtain ⟨B, hB⟩ : ∃ B, w.heap.size = B := ⟨_, rfl⟩
  rw [hB] at K0 K1
  have OLD := Lib.hid (fun (W W' : World) (h : Chg (fun k => ¬ k < B) W W') (hs : B ≤ W.heap.size) => h.below hs (fun _ h => Nat.le_of_not_lt h))
  have HB := Lib.hid (Nat.le_of_eq hB.symm)
  have ADV := Lib.hid (fun (W W' : World) (h : Below B w W) (c : Chg (fun k => ¬ k < B) W W') => h.trans (OLD.out W W' c (Nat.le_trans HB.out h.size)))
  have NON := Lib.hid (fun (W W' : World) (h : Below B w W) (c : Chg (fun _ => False) W W') => ADV.out W W' h (c.mono fun _ a => a.elim))
  have K1 := Lib.hid K1; have KE := Lib.hid KE; have KD := Lib.hid KD; have KL := Lib.hid KL; have KP := Lib.hid KP
  rw [hB]
  clear hB e1 e2 e3 hs0
  go_enter Tryz.func5, Tryz.ntmps5
  go_wp2_with fail
  refine K0.out.mono ?_
  rintro e w1 ⟨rfl, m1, b1⟩
  have M1 := Lib.hid (show MT B w1 B 32 (fun _ => 0) from ⟨0, by omega, m1⟩); have B1 := Lib.hid b1; clear m1 b1
  go_wp2_with fail
  refine (K1.out w1 M1.out).mono ?_
  rintro e w2 ⟨q, rfl, m1, b1⟩
  have M2 := Lib.hid m1; have B2 := Lib.hid (B1.out.trans b1); clear m1 b1
  go_wp2_with fail
  have b5 := Blk.new w2 #[.int .i64 0, .string ⟨#[97, 98, 99, 100]⟩, .string ⟨#[]⟩, .int .i64 1] 23
  have c2 : Chg (fun _ => False) w2 (w2.alloc (.cells #[.int .i64 0, .string ⟨#[97, 98, 99, 100]⟩, .string ⟨#[]⟩, .int .i64 1] 23)) := (Chg.refl _ w2).alloc _
  have C2 := Lib.hid c2
  refine (KE.out _).mono ?_
  rintro e w3 ⟨rfl, c3⟩
  have X3 := Lib.hid (c3.blk b5 (fun a => a))
  have M3 := Lib.hid (M2.out.boxed (c2.trans c3) X3.out.lt); have B3 := Lib.hid (NON.out _ _ B2.out (c2.trans c3))
  clear b5 c2 c3
  generalize w2.heap.size = x5 at *
  go_wp2_with fail
  refine (KD.out w3).mono ?_
  rintro e w4 ⟨rfl, c4⟩
  have X4 := Lib.hid (c4.blk X3.out (fun a => a))
  have M4 := Lib.hid (M3.out.nothing c4); have B4 := Lib.hid (NON.out _ _ B3.out c4)
  have x0 := (X4.out.alloc (.cells #[.int .i64 0, .string ⟨#[97, 98, 99, 100]⟩, .string ⟨#[]⟩, .int .i64 1] 23)).cellv 0 _ rfl
  have x1 := (X4.out.alloc (.cells #[.int .i64 0, .string ⟨#[97, 98, 99, 100]⟩, .string ⟨#[]⟩, .int .i64 1] 23)).cellv 1 _ rfl
  have x2 := (X4.out.alloc (.cells #[.int .i64 0, .string ⟨#[97, 98, 99, 100]⟩, .string ⟨#[]⟩, .int .i64 1] 23)).cellv 2 _ rfl
  have x3 := (X4.out.alloc (.cells #[.int .i64 0, .string ⟨#[97, 98, 99, 100]⟩, .string ⟨#[]⟩, .int .i64 1] 23)).cellv 3 _ rfl
  clear c4
  go_wp2_with fail
  have b8 := Blk.new w4 #[.int .i64 0, .string ⟨#[97, 98, 99, 100]⟩, .string ⟨#[]⟩, .int .i64 1] 23
  have c5 : Chg (fun _ => False) w4 (w4.alloc (.cells #[.int .i64 0, .string ⟨#[97, 98, 99, 100]⟩, .string ⟨#[]⟩, .int .i64 1] 23)) := (Chg.refl _ w4).alloc _
  have M5 := Lib.hid (M4.out.boxed c5 b8.lt); have B5 := Lib.hid (NON.out _ _ B4.out c5)
  have X5 := Lib.hid (c5.blk X4.out (fun a => a)); have Y5 := Lib.hid b8
  clear c5 b8 x0 x1 x2 x3
  generalize w4.alloc (.cells #[.int .i64 0, .string ⟨#[97, 98, 99, 100]⟩, .string ⟨#[]⟩, .int .i64 1] 23) = w5 at *
  generalize w4.heap.size = x8 at *
  refine (KL.out _ w5 q B M5.out).mono ?_
  rintro e w6 ⟨rfl, m6⟩
  have ST := Lib.hid m6.st
  have M6 := Lib.hid m6.pl; have B6 := Lib.hid (ADV.out _ _ B5.out (m6.chg.mono fun k a b => a (.inl (.inl b))))
  have X6 := Lib.hid (m6.chg.blk X5.out (fun a => a (.inl (.inr rfl)))); have Y6 := Lib.hid (m6.chg.blk Y5.out (fun a => a (.inr rfl)))
  clear m6
  go_wp2_with (refine wpList_store_fresh rfl 29 (.tmp 11) (.tmp 41) rfl (hartC 256) rfl rfl (by as_aux_lemma => kernel_rfl) (by as_aux_lemma => kernel_rfl) (by as_aux_lemma => kernel_rfl) ?_)
  have b11 := Blk.new w6 (hartC 256) 29
  have c7 : Chg (fun _ => False) w6 (w6.alloc (.cells (hartC 256) 29)) := (Chg.refl _ w6).alloc _
  have M7 := Lib.hid (M6.out.boxed c7 b11.lt); have B7 := Lib.hid (NON.out _ _ B6.out c7)
  have X7 := Lib.hid (c7.blk X6.out (fun a => a)); have Y7 := Lib.hid (c7.blk Y6.out (fun a => a)); have Z7 := Lib.hid b11
  clear c7 b11
  generalize w6.alloc (.cells (hartC 256) 29) = w7 at *
  generalize w6.heap.size = x11 at *
  refine (KP.out ST.out _ w7 q B M7.out).mono ?_
  rintro e w8 ⟨sv, rfl, u8, p8, c8⟩
  obtain ⟨g, cap, rfl, u1, u2⟩ := u8.form (by decide)
  have l0 := u8.cellAt 0 (by decide)
  have l1 := u8.cellAt 1 (by decide)
  have l2 := u8.cellAt 2 (by decide)
  have l9 := u8.cellAt 9 (by decide)
  simp only [List.map_cons, List.map_nil, List.getElem?_cons_zero, List.getElem?_cons_succ] at l0 l1 l2 l9
  have B8 := Lib.hid (ADV.out _ _ B7.out (c8.mono fun k a b => a (.inl (.inl (.inl b)))))
  have X8 := c8.blk X7.out (fun a => a (.inl (.inl (.inr rfl)))); have Y8 := c8.blk Y7.out (fun a => a (.inl (.inr rfl))); have Z8 := c8.blk Z7.out (fun a => a (.inr rfl))
  have x0 := X8.cellv 0 _ rfl
  have x1 := X8.cellv 1 _ rfl
  have x2 := X8.cellv 2 _ rfl
  have x3 := X8.cellv 3 _ rfl
  have y0 := Y8.cellv 0 _ rfl
  have y1 := Y8.cellv 1 _ rfl
  have y2 := Y8.cellv 2 _ rfl
  have y3 := Y8.cellv 3 _ rfl
  have z2 : w8.cell? ⟨x11, 2, none⟩ = some (.int .u64 16384) := Z8.cellv 2 _ rfl
  have z32 : w8.cell? ⟨x11, 32, none⟩ = some (.int .u64 256) := Z8.cellv 32 _ rfl
  clear u8 p8 c8 X8 Y8 Z8 u1 u2
  go_wp2_with fail
  go_ret
  exact ⟨rfl, B8.out⟩
end Go.Proofs.YtijooajhjcfneaaGreat
