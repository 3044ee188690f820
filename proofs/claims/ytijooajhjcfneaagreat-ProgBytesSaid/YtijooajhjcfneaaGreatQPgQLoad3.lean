/-
  The document's Load where nothing is loaded.
-/
import Derived.Test.YtijooajhjcfneaaGreatQPgQLoad
namespace Go.Proofs.YtijooajhjcfneaaGreat
open Go.RowKit

set_option maxRecDepth 100000 in
set_option maxHeartbeats 800000 in
theorem q_load12_form (w : World) (rq : Nat) (x : Prg) (hsm : x.Small) (hx : x.may = false) :
    Calls Tryz.prog 14 #[.pointer (some ⟨rq, 0, none⟩), x.val] w fun e w' => e = .returned (loadE 6) ∧ Chg (fun _ => False) w w' := by
  have K1 := fun W => q_may W x hsm
  rw [hx] at K1
  obtain ⟨en, text, data, bs⟩ := x
  unfold Prg.val at *
  simp only at K1 ⊢
  have L0 := Lib.hid (LoZ.start w #[.int .i64 en, .string text, .string data, .int .i64 bs])
  have K1 := Lib.hid K1
  clear hsm hx
  go_enter Tryz.func14, Tryz.ntmps14
  go_wp2_with fail
  refine (K1.out _).mono ?_
  rintro e w1 ⟨rfl, c1⟩
  have L1 := Lib.hid (L0.out.none c1)
  clear c1
  go_wp2_with (first | (refine wpList_buildTo rfl 29 _ rfl (some 27) rfl hart0 (by as_aux_lemma => kernel_rfl) ?_) | (refine wpList_store_row rfl 29 (.tmp 5) (.tmp 27) rfl (w.heap.size + 1) hart0 rfl rfl 29 hart0 L1.out.r (by as_aux_lemma => kernel_rfl) rfl (by as_aux_lemma => kernel_rfl) ?_))
  have FB := L1.out.store
  (try simp only [Exit.inBlock, Exit.then])
  refine bodyPost_ret (v := loadE 6) ?_ rfl ⟨rfl, FB.2⟩
  exact results_tctt (x := 4) (p := 5) (y := 6) (z := 7) (by rfl) _ _ (w.heap.size + 1) 29 hart0 _ (by rfl) FB.1 Tryz.underlying29 rfl (by as_aux_lemma => kernel_rfl)
theorem LoZ.cells {w0 W : World} {a b c d : Value} (h : LoZ w0 #[a, b, c, d] W) : W.cell? ⟨w0.heap.size, 0, Option.none⟩ = some a ∧ W.cell? ⟨w0.heap.size, 1, Option.none⟩ = some b ∧ W.cell? ⟨w0.heap.size, 2, Option.none⟩ = some c ∧ W.cell? ⟨w0.heap.size, 3, Option.none⟩ = some d :=
  ⟨h.b.cellv 0 _ rfl, h.b.cellv 1 _ rfl, h.b.cellv 2 _ rfl, h.b.cellv 3 _ rfl⟩
set_option maxRecDepth 100000 in
set_option maxHeartbeats 800000 in
theorem q_load12_full {S : Nat → Prop} {w : World} {rq r F : Nat} {s : PS} {x : Prg} {a b m : Nat} (hF : F ≤ 256) (h : RQ S w rq r F s.Fr s.V) (hsm : x.Small) (hx : x.may = true) (ha : a = pagesN x.text.size) (hb : b = pagesN (x.data.size + x.bss.toNat)) (hm : m = a + b) (hl : s.left F < m + 12) :
    Calls Tryz.prog 14 #[.pointer (some ⟨rq, 0, none⟩), x.val] w fun e w' => e = .returned (loadE 4) ∧ Chg (fun _ => False) w w' := by
  obtain ⟨m1, m2, m3, m4, m5, m6, m7, m8, m9, m10⟩ := may_nums hx
  have K1 := fun W => q_may W x hsm
  rw [hx] at K1
  have K3 := fun W (H : RQ S W rq r F s.Fr s.V) => q_left H hF
  have K4 := fun W => q_need12 W x hsm hx m (by rw [hm, ha, hb])
  obtain ⟨nd, hnd⟩ : ∃ nd, nd = m + 12 := ⟨_, rfl⟩
  rw [← hnd] at K4
  have d1 : decide (((s.left F : Nat) : Int) < ((nd : Nat) : Int)) = true := decide_eq_true (by omega)
  have d2 : decide (s.left F < nd) = true := decide_eq_true (by omega)
  have d3 : s.left F < nd := by omega
  generalize s.left F = lf at *
  obtain ⟨en, text, data, bs⟩ := x
  unfold Prg.val at *
  simp only at K1 K4 ⊢
  have L0 := Lib.hid (LoZ.start w #[.int .i64 en, .string text, .string data, .int .i64 bs])
  have K1 := Lib.hid K1; have K3 := Lib.hid K3; have K4 := Lib.hid K4; have H0 := Lib.hid h
  clear h hsm hx ha hb hl m1 m2 m3 m4 m5 m6 m7 m8 m9 m10 hnd
  go_enter Tryz.func14, Tryz.ntmps14
  go_wp2_with fail
  refine (K1.out _).mono ?_
  rintro e w1 ⟨rfl, c1⟩
  have L1 := Lib.hid (L0.out.none c1)
  clear c1
  have D1 := Lib.hid (L1.out.none (Chg.refl _ _).drew)
  have cT := D1.out.cells
  have K3d := Lib.hid (K3.out _ (H0.out.nothing D1.out.c))
  go_wp2_with fail
  go_region_held3 (fun w' => w'.cell? ⟨w.heap.size, 0, none⟩ = some (.int .i64 en) ∧ w'.cell? ⟨w.heap.size, 1, none⟩ = some (.string text) ∧ w'.cell? ⟨w.heap.size, 2, none⟩ = some (.string data) ∧ w'.cell? ⟨w.heap.size, 3, none⟩ = some (.int .i64 bs)) (first | assumption | exact cT | (simp [*]; done))
    (first
      | (go_at_call 17; refine K3d.out.mono ?_; rintro e v1 ⟨rfl, hw⟩; rw [← hw]; clear hw)
      | (go_at_call 34; refine (K4.out _).mono ?_; rintro e w2 ⟨rfl, c2⟩; have L2 := Lib.hid (D1.out.none c2); have cT := L2.out.cells; clear c2))
  go_wp2_with (first | (refine wpList_buildTo rfl 29 _ rfl (some 33) rfl hart0 (by as_aux_lemma => kernel_rfl) ?_) | (refine wpList_store_row rfl 29 (.tmp 5) (.tmp 33) rfl (w.heap.size + 1) hart0 rfl rfl 29 hart0 L2.out.r (by as_aux_lemma => kernel_rfl) rfl (by as_aux_lemma => kernel_rfl) ?_))
  have FB := L2.out.store
  (try simp only [Exit.inBlock, Exit.then])
  refine bodyPost_ret (v := loadE 4) ?_ rfl ⟨rfl, FB.2⟩
  exact results_tctt (x := 4) (p := 5) (y := 6) (z := 7) (by rfl) _ _ (w.heap.size + 1) 29 hart0 _ (by rfl) FB.1 Tryz.underlying29 rfl (by as_aux_lemma => kernel_rfl)
end Go.Proofs.YtijooajhjcfneaaGreat
