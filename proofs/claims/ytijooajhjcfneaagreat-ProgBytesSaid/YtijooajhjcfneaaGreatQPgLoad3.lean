/-
  Load where no program is loaded.
-/
import Derived.Test.YtijooajhjcfneaaGreatQPgLoad2
namespace Go.Proofs.YtijooajhjcfneaaGreat
open Go.RowKit

/-- the zero hart -/
def hart0 : Array Value := #[.int .u64 0, .int .u64 0, .int .u64 0, .int .u64 0, .int .u64 0, .int .u64 0, .int .u64 0, .int .u64 0, .int .u64 0, .int .u64 0, .int .u64 0, .int .u64 0, .int .u64 0, .int .u64 0, .int .u64 0, .int .u64 0, .int .u64 0, .int .u64 0, .int .u64 0, .int .u64 0, .int .u64 0, .int .u64 0, .int .u64 0, .int .u64 0, .int .u64 0, .int .u64 0, .int .u64 0, .int .u64 0, .int .u64 0, .int .u64 0, .int .u64 0, .int .u64 0, .int .u64 0, .bool false, .int .u64 0]
/-- what Load answers where nothing is loaded -/
def loadE (e : Int) : Value := .tuple #[.int .i64 0, .agg hart0, .int .u64 0, .int .i64 e]
/-- the program's block and the result's -/
structure LoZ (w0 : World) (cs : Array Value) (W : World) : Prop where
  b : Blk W w0.heap.size cs 23
  r : Blk W (w0.heap.size + 1) hart0 29
  c : Chg (fun _ => False) w0 W
theorem LoZ.start (w0 : World) (cs : Array Value) : LoZ w0 cs ((w0.alloc (.cells cs 23)).alloc (.cells hart0 29)) := by
  have z1 : (w0.alloc (.cells cs 23)).heap.size = w0.heap.size + 1 := by simp
  have h2 := Blk.new (w0.alloc (.cells cs 23)) hart0 29
  rw [z1] at h2
  exact ⟨(Blk.new w0 _ _).alloc _, h2, ((Chg.refl _ w0).alloc _).alloc _⟩
theorem LoZ.none {w0 W W' : World} {cs : Array Value} (h : LoZ w0 cs W) (c : Chg (fun _ => False) W W') : LoZ w0 cs W' := ⟨c.blk h.b (fun a => a), c.blk h.r (fun a => a), h.c.trans c⟩
theorem LoZ.store {w0 W : World} {cs : Array Value} (h : LoZ w0 cs W) : Blk (W.setRow (w0.heap.size + 1) hart0) (w0.heap.size + 1) hart0 29 ∧ Chg (fun _ => False) w0 (W.setRow (w0.heap.size + 1) hart0) :=
  ⟨h.r.row _, h.c.rowNew _ _ (Nat.le_succ _)⟩
set_option maxRecDepth 100000 in
set_option maxHeartbeats 800000 in
theorem p_load_nil (w : World) (x : Prg) :
    Calls Tryz.prog 7 #[.pointer none, x.val] w fun e w' => e = .returned (loadE 1) ∧ Chg (fun _ => False) w w' := by
  obtain ⟨en, text, data, bs⟩ := x
  unfold Prg.val
  have L0 := Lib.hid (LoZ.start w #[.int .i64 en, .string text, .string data, .int .i64 bs])
  go_enter Tryz.func7, Tryz.ntmps7
  go_wp2_with (first | (refine wpList_buildTo rfl 29 _ rfl (some 15) rfl hart0 (by as_aux_lemma => kernel_rfl) ?_) | (refine wpList_store_row rfl 29 (.tmp 5) (.tmp 15) rfl (w.heap.size + 1) hart0 rfl rfl 29 hart0 L0.out.r (by as_aux_lemma => kernel_rfl) rfl (by as_aux_lemma => kernel_rfl) ?_))
  have FB := L0.out.store
  (try simp only [Exit.inBlock, Exit.then])
  refine bodyPost_ret (v := loadE 1) ?_ rfl ⟨rfl, FB.2⟩
  exact results_tctt (x := 4) (p := 5) (y := 6) (z := 7) (by rfl) _ _ (w.heap.size + 1) 29 hart0 _ (by rfl) FB.1 Tryz.underlying29 rfl (by as_aux_lemma => kernel_rfl)
set_option maxRecDepth 100000 in
set_option maxHeartbeats 800000 in
theorem p_load_form (w : World) (q : Nat) (x : Prg) (hsm : x.Small) (hx : x.may = false) :
    Calls Tryz.prog 7 #[.pointer (some ⟨q, 0, none⟩), x.val] w fun e w' => e = .returned (loadE 6) ∧ Chg (fun _ => False) w w' := by
  have K1 := fun W => p_may W x hsm
  rw [hx] at K1
  obtain ⟨en, text, data, bs⟩ := x
  unfold Prg.val at *
  simp only at K1 ⊢
  have L0 := Lib.hid (LoZ.start w #[.int .i64 en, .string text, .string data, .int .i64 bs])
  have K1 := Lib.hid K1
  clear hsm hx
  go_enter Tryz.func7, Tryz.ntmps7
  go_wp2_with fail
  refine (K1.out _).mono ?_
  rintro e w1 ⟨rfl, c1⟩
  have L1 := Lib.hid (L0.out.none c1)
  clear c1
  go_wp2_with (first | (refine wpList_buildTo rfl 29 _ rfl (some 19) rfl hart0 (by as_aux_lemma => kernel_rfl) ?_) | (refine wpList_store_row rfl 29 (.tmp 5) (.tmp 19) rfl (w.heap.size + 1) hart0 rfl rfl 29 hart0 L1.out.r (by as_aux_lemma => kernel_rfl) rfl (by as_aux_lemma => kernel_rfl) ?_))
  have FB := L1.out.store
  (try simp only [Exit.inBlock, Exit.then])
  refine bodyPost_ret (v := loadE 6) ?_ rfl ⟨rfl, FB.2⟩
  exact results_tctt (x := 4) (p := 5) (y := 6) (z := 7) (by rfl) _ _ (w.heap.size + 1) 29 hart0 _ (by rfl) FB.1 Tryz.underlying29 rfl (by as_aux_lemma => kernel_rfl)
set_option maxRecDepth 100000 in
set_option maxHeartbeats 800000 in
theorem p_load_full {S : Nat → Prop} {w : World} {q p F : Nat} {s : PS} {x : Prg} {a b m : Nat} (h : Pl S w q p F 0 s.Fr s.V) (hsm : x.Small) (hx : x.may = true) (ha : a = pagesN x.text.size) (hb : b = pagesN (x.data.size + x.bss.toNat)) (hm : m = a + b) (hl : s.left F < m + 12) :
    Calls Tryz.prog 7 #[.pointer (some ⟨q, 0, none⟩), x.val] w fun e w' => e = .returned (loadE 4) ∧ Chg (fun _ => False) w w' := by
  obtain ⟨m1, m2, m3, m4, m5, m6, m7, m8, m9, m10⟩ := may_nums hx
  have hm28 : m ≤ 28 := by rw [hm, ha, hb]; unfold pagesN; omega
  have ha1 : 1 ≤ a := by rw [ha]; unfold pagesN; omega
  have K1 := fun W => p_may W x hsm
  rw [hx] at K1
  have K2 := fun W => p_size W x hsm
  have e2 : sizeV2 x = .tuple #[.int .i64 (a : Nat), .int .i64 (b : Nat)] := by unfold sizeV2; rw [if_pos hx, ha, hb]
  rw [e2] at K2
  have K3 := fun W (H : Pl S W q p F 0 s.Fr s.V) => f_leftS H
  have K4 := fun W => p_need W m (by omega) hm28
  rw [show ((m : Nat) : Int) = (a : Int) + (b : Int) from by omega] at K4
  obtain ⟨nd, hnd⟩ : ∃ nd, nd = m + 12 := ⟨_, rfl⟩
  rw [← hnd] at K4
  have d1 : decide (((s.left F : Nat) : Int) < ((nd : Nat) : Int)) = true := decide_eq_true (by omega)
  have d2 : decide (s.left F < nd) = true := decide_eq_true (by omega)
  have d3 : s.left F < nd := by omega
  have wab : IntKind.i64.wrap ((a : Int) + (b : Int)) = (a : Int) + (b : Int) := i64_wrap_eq rfl (by omega)
  have wab2 : wrap64 ((a : Int) + (b : Int)) = (a : Int) + (b : Int) := by unfold wrap64; omega
  generalize s.left F = lf at *
  obtain ⟨en, text, data, bs⟩ := x
  unfold Prg.val at *
  simp only at K1 K2 ⊢
  have L0 := Lib.hid (LoZ.start w #[.int .i64 en, .string text, .string data, .int .i64 bs])
  have K1 := Lib.hid K1; have K2 := Lib.hid K2; have K3 := Lib.hid K3; have K4 := Lib.hid K4; have H0 := Lib.hid h
  clear h hsm hx ha hb hl e2 m1 m2 m3 m4 m5 m6 m7 m8 m9 m10 hm28 ha1 hnd
  go_enter Tryz.func7, Tryz.ntmps7
  go_wp2_with fail
  refine (K1.out _).mono ?_
  rintro e w1 ⟨rfl, c1⟩
  have L1 := Lib.hid (L0.out.none c1)
  have x0 := L1.out.b.cellv 0 _ rfl
  have x1 := L1.out.b.cellv 1 _ rfl
  have x2 := L1.out.b.cellv 2 _ rfl
  have x3 := L1.out.b.cellv 3 _ rfl
  clear c1
  go_wp2_with fail
  refine (K2.out _).mono ?_
  rintro e w2 ⟨rfl, c2⟩
  have L2 := Lib.hid (L1.out.none c2)
  clear c2 x0 x1 x2 x3
  go_wp2_with fail
  refine (K3.out _ (H0.out.nothing L2.out.c)).mono ?_
  rintro e wq ⟨rfl, hw⟩
  rw [← hw]
  clear hw wq
  go_wp2_with fail
  refine (K4.out _).mono ?_
  rintro e w3 ⟨rfl, c3⟩
  have L3 := Lib.hid (L2.out.none c3)
  clear c3
  go_wp2_with (first | (refine wpList_buildTo rfl 29 _ rfl (some 32) rfl hart0 (by as_aux_lemma => kernel_rfl) ?_) | (refine wpList_store_row rfl 29 (.tmp 5) (.tmp 32) rfl (w.heap.size + 1) hart0 rfl rfl 29 hart0 L3.out.r (by as_aux_lemma => kernel_rfl) rfl (by as_aux_lemma => kernel_rfl) ?_))
  have FB := L3.out.store
  (try simp only [Exit.inBlock, Exit.then])
  refine bodyPost_ret (v := loadE 4) ?_ rfl ⟨rfl, FB.2⟩
  exact results_tctt (x := 4) (p := 5) (y := 6) (z := 7) (by rfl) _ _ (w.heap.size + 1) 29 hart0 _ (by rfl) FB.1 Tryz.underlying29 rfl (by as_aux_lemma => kernel_rfl)
end Go.Proofs.YtijooajhjcfneaaGreat
