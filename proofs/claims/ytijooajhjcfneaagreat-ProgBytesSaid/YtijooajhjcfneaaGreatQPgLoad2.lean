/-
  Load where the program may be.
-/
import Derived.Test.YtijooajhjcfneaaGreatQPgLA
import Derived.Test.YtijooajhjcfneaaGreatQBigS
namespace Go.Proofs.YtijooajhjcfneaaGreat
open Go.RowKit


set_option maxRecDepth 100000 in
set_option maxHeartbeats 800000 in
theorem p_load_yes {S : Nat → Prop} {w : World} {q p F : Nat} {s s4 : PS} {R : Roles} {x : Prg} {a b m : Nat} (hF : F ≤ 256) (h : Pl S w q p F 0 s.Fr s.V) (g : SG F s R) (hsm : x.Small) (hx : x.may = true) (ha : a = pagesN x.text.size) (hb : b = pagesN (x.data.size + x.bss.toNat)) (hm : m = a + b) (hl : m + 12 ≤ s.left F) (hs : loadS F s x a b = s4) :
    Calls Tryz.prog 7 #[.pointer (some ⟨q, 0, none⟩), x.val] w fun e w' => e = .returned (.tuple #[.int .i64 (s.top F : Nat), .agg (hartC (256 + x.entry.toNat)), .int .u64 ((256 * (1 + a) + x.data.size + x.bss.toNat : Nat) : Int), .int .i64 0]) ∧ LdI S w q p F (s.top F) m s4 w' := by
  obtain ⟨m1, m2, m3, m4, m5, m6, m7, m8, m9, m10⟩ := may_nums hx
  have hm28 : m ≤ 28 := by rw [hm, ha, hb]; unfold pagesN; omega
  have ha8 : a ≤ 8 := by rw [ha]; unfold pagesN; omega
  have ha1 : 1 ≤ a := by rw [ha]; unfold pagesN; omega
  have hb20 : b ≤ 20 := by rw [hb]; unfold pagesN; omega
  have K1 := fun W => p_may W x hsm
  rw [hx] at K1
  have K2 := fun W => p_size W x hsm
  have e2 : sizeV2 x = .tuple #[.int .i64 (a : Nat), .int .i64 (b : Nat)] := by unfold sizeV2; rw [if_pos hx, ha, hb]
  rw [e2] at K2
  have K3 := fun W (H : Pl (S2 S w) W q p F 0 s.Fr s.V) => f_leftS H
  have K4 := fun W => p_need W m (by omega) hm28
  rw [show ((m : Nat) : Int) = (a : Int) + (b : Int) from by omega] at K4
  have K5 := fun W (H : Pl (S2 S w) W q p F 0 s.Fr s.V) => sp_new H hF (show 0 < s.left F by omega)
  obtain ⟨s1, h1⟩ : ∃ s1, flN F (s.top F) 1 27 x.text (s.take F) a = s1 := ⟨_, rfl⟩
  obtain ⟨s2, h2⟩ : ∃ s2, flN F (s.top F) (1 + a) 23 x.data s1 b = s2 := ⟨_, rfl⟩
  have h3 : flN F (s.top F) 56 23 ⟨#[]⟩ s2 8 = s4 := by rw [← hs, ← h2, ← h1]; rfl
  have K6 := fun W (H : Pl (S2 S w) W q p F 0 (s.take F).Fr (s.take F).V) => ld1 (x := x) (a := a) (m := m) hF g hx ha hm28 (by omega) hl H h1
  have K7 := fun W H HR => ld2 (S := S2 S w) (w := W) (q := q) (p := p) (x := x) (m := m) hF hx hm28 hm H HR h2
  have K8 := fun W H HR => ld3 (S := S2 S w) (w := W) (q := q) (p := p) (m := m) hF hm28 H HR h3
  obtain ⟨nd, hnd⟩ : ∃ nd, nd = m + 12 := ⟨_, rfl⟩
  rw [← hnd] at K4
  have d1 : decide (((s.left F : Nat) : Int) < ((nd : Nat) : Int)) = false := decide_eq_false (by omega)
  have d2 : decide (s.left F < nd) = false := decide_eq_false (by omega)
  have d3 : ¬ s.left F < nd := by omega
  have wab : IntKind.i64.wrap ((a : Int) + (b : Int)) = (a : Int) + (b : Int) := i64_wrap_eq rfl (by omega)
  have wab2 : wrap64 ((a : Int) + (b : Int)) = (a : Int) + (b : Int) := by unfold wrap64; omega
  generalize s.top F = root at *
  generalize s.left F = lf at *
  generalize s.take F = st at *
  obtain ⟨en, text, data, bs⟩ := x
  simp only at m1 m2 m3 m4 m5 m6 m7 m8 m9 m10 K6 K7 ⊢
  obtain ⟨bb, rfl⟩ := Int.eq_ofNat_of_zero_le m8
  obtain ⟨en, rfl⟩ := Int.eq_ofNat_of_zero_le m4
  simp only [Int.toNat_natCast]
  unfold Prg.val at *
  simp only at K1 K2 ⊢
  have ST := LoK.start h #[.int .i64 (en : Nat), .string text, .string data, .int .i64 (bb : Nat)]
  have L0 := Lib.hid ST.1; have M0 := Lib.hid ST.2
  clear ST
  have K1 := Lib.hid K1; have K2 := Lib.hid K2; have K3 := Lib.hid K3; have K4 := Lib.hid K4; have K5 := Lib.hid K5; have K6 := Lib.hid K6; have K7 := Lib.hid K7; have K8 := Lib.hid K8
  have HN := Lib.hid (And.intro m2 (And.intro m5 (And.intro m7 (And.intro m9 (And.intro ha8 hb20)))))
  clear h g hsm hx ha hb hl hs e2 h1 h2 h3 hF m1 m2 m3 m4 m5 m6 m7 m8 m9 m10 hm28 ha1 hnd
  go_enter Tryz.func7, Tryz.ntmps7
  go_wp2_with fail
  refine (K1.out _).mono ?_
  rintro e w1 ⟨rfl, c1⟩
  have M1 := Lib.hid (M0.out.nothing c1); have L1 := Lib.hid (L0.out.none c1)
  have x0 := L1.out.b.cellv 0 _ rfl
  have x1 := L1.out.b.cellv 1 _ rfl
  have x2 := L1.out.b.cellv 2 _ rfl
  have x3 := L1.out.b.cellv 3 _ rfl
  clear c1
  go_wp2_with fail
  refine (K2.out _).mono ?_
  rintro e w2 ⟨rfl, c2⟩
  have M2 := Lib.hid (M1.out.nothing c2); have L2 := Lib.hid (L1.out.none c2)
  clear c2 x0 x1 x2 x3
  go_wp2_with fail
  refine (K3.out _ M2.out).mono ?_
  rintro e wq ⟨rfl, hw⟩
  rw [← hw]
  clear hw wq
  go_wp2_with fail
  refine (K4.out _).mono ?_
  rintro e w3 ⟨rfl, c3⟩
  have M3 := Lib.hid (M2.out.nothing c3); have L3 := Lib.hid (L2.out.none c3)
  clear c3
  go_wp2_with fail
  refine (K5.out _ M3.out).mono ?_
  rintro e w4 ⟨rfl, m4, c4⟩
  have M4 := Lib.hid m4; have L4 := Lib.hid (L3.out.step c4)
  have x1 := L4.out.b.cellv 1 _ rfl
  clear m4 c4
  go_wp2_with fail
  refine (K6.out _ M4.out).mono ?_
  rintro e w5 ⟨rfl, r5, m5, c5⟩
  have M5 := Lib.hid (And.intro m5 r5); have L5 := Lib.hid (L4.out.step c5)
  have x2 := L5.out.b.cellv 2 _ rfl
  clear m5 c5 r5 x1
  go_wp2_with fail
  refine (K7.out _ M5.out.1 M5.out.2).mono ?_
  rintro e w6 ⟨rfl, r6, m6, c6⟩
  have M6 := Lib.hid (And.intro m6 r6); have L6 := Lib.hid (L5.out.step c6)
  clear m6 c6 r6 x2
  go_wp2_with fail
  refine (K8.out _ M6.out.1 M6.out.2).mono ?_
  rintro e w7 ⟨rfl, m7⟩
  have M7 := Lib.hid m7; have L7 := Lib.hid (L6.out.step m7.chg)
  have x0 := L7.out.b.cellv 0 _ rfl
  have x2 := L7.out.b.cellv 2 _ rfl
  have x3 := L7.out.b.cellv 3 _ rfl
  clear m7
  obtain ⟨g1, g2⟩ := ld_n1 en (by have := HN.out.2.1; have := HN.out.1; omega)
  obtain ⟨pc, hpc⟩ : ∃ pc, pc = 256 + en := ⟨_, rfl⟩
  rw [← hpc] at g2
  have HPC := Lib.hid hpc
  clear hpc
  go_wp2_with (first | (refine wpList_buildTo rfl 29 _ rfl (some 70) rfl (hartZ pc) (by as_aux_lemma => kernel_rfl) ?_) | (refine wpList_store_fresh rfl 29 (.tmp 12) (.tmp 70) rfl (hartZ pc) rfl rfl (by as_aux_lemma => kernel_rfl) (by as_aux_lemma => kernel_rfl) (by as_aux_lemma => kernel_rfl) ?_))
  rw [hartZ_set]
  have c8 : Chg (fun _ => False) w7 (w7.alloc (.cells (hartC pc) 29)) := (Chg.refl _ w7).alloc _
  have L8 := Lib.hid (L7.out.none c8)
  have C8 := Lib.hid c8
  have hg8 : Blk (w7.alloc (.cells (hartC pc) 29)) w7.heap.size (hartC pc) 29 := Blk.new _ _ _
  generalize w7.alloc (.cells (hartC pc) 29) = w8 at *
  clear x0 x2 x3 c8
  have hS : Blk w8.drew w7.heap.size (hartC pc) 29 ∧ (∃ cs, Blk w8.drew (w.heap.size + 1) cs 29 ∧ cs.size = 35) ∧ w8.drew.cell? ⟨w.heap.size, 2, none⟩ = some (.string data) ∧ w8.drew.cell? ⟨w.heap.size, 3, none⟩ = some (.int .i64 (bb : Nat)) := ⟨hg8, ⟨_, L8.out.r, rfl⟩, L8.out.b.cellv 2 _ rfl, L8.out.b.cellv 3 _ rfl⟩
  generalize hgg : w7.heap.size = g at *
  have HG := Lib.hid hgg
  obtain ⟨q1, q2, q3, q4, q5⟩ := ld_n2 a data.size bb HN.out.2.2.2.2.1 HN.out.2.2.1 (by have := HN.out.2.2.2.1; omega)
  clear hgg hg8
  refine wp_region_held_drew (S := (fun W => Blk W g (hartC pc) 29 ∧ (∃ cs, Blk W (w.heap.size + 1) cs 29 ∧ cs.size = 35) ∧ W.cell? ⟨w.heap.size, 2, none⟩ = some (.string data) ∧ W.cell? ⟨w.heap.size, 3, none⟩ = some (.int .i64 (bb : Nat)))) (by kernel_rfl) hS (fun hHeld => ?_)
  clear hS
  refine takeL (i := 0) (v := ?_) rfl (by kernel_rfl) (by kernel_rfl) (by kernel_rfl) (fun _ _ _ h => h) (Or.inl ⟨by rfl, ?_⟩) (by assumption) ?_
  rotate_left
  · (intro W hSw; (try dsimp only at hSw); go_simp; try with_reducible rfl)
  try simp only [Act.put, List.setIfInBounds_toArray, List.set_cons_zero, List.set_cons_succ]
  refine takeL (i := 2) (v := ?_) rfl (by kernel_rfl) (by kernel_rfl) (by kernel_rfl) (fun _ _ _ h => h) (Or.inl ⟨by rfl, ?_⟩) (by assumption) ?_
  rotate_left
  · (intro W hSw; (try dsimp only at hSw); go_simp; try with_reducible rfl)
  try simp only [Act.put, List.setIfInBounds_toArray, List.set_cons_zero, List.set_cons_succ]
  refine takeL (i := 3) (v := ?_) rfl (by kernel_rfl) (by kernel_rfl) (by kernel_rfl) (fun _ _ _ h => h) (Or.inl ⟨by rfl, ?_⟩) (by assumption) ?_
  rotate_left
  · (intro W hSw; (try dsimp only at hSw); go_simp; try with_reducible rfl)
  try simp only [Act.put, List.setIfInBounds_toArray, List.set_cons_zero, List.set_cons_succ]
  refine takeL (i := 4) (v := ?_) rfl (by kernel_rfl) (by kernel_rfl) (by kernel_rfl) (fun _ _ _ h => h) (Or.inl ⟨by rfl, ?_⟩) (by assumption) ?_
  rotate_left
  · (intro W hSw; (try dsimp only at hSw); go_simp; try with_reducible rfl)
  try simp only [Act.put, List.setIfInBounds_toArray, List.set_cons_zero, List.set_cons_succ]
  refine takeL (i := 5) (v := ?_) rfl (by kernel_rfl) (by kernel_rfl) (by kernel_rfl) (fun _ _ _ h => h) (Or.inl ⟨by rfl, ?_⟩) (by assumption) ?_
  rotate_left
  · (intro W hSw; (try dsimp only at hSw); go_simp; try with_reducible rfl)
  try simp only [Act.put, List.setIfInBounds_toArray, List.set_cons_zero, List.set_cons_succ]
  refine takeL (i := 6) (v := ?_) rfl (by kernel_rfl) (by kernel_rfl) (by kernel_rfl) (fun _ _ _ h => h) (Or.inl ⟨by rfl, ?_⟩) (by assumption) ?_
  rotate_left
  · (intro W hSw; (try dsimp only at hSw); go_simp; try with_reducible rfl)
  try simp only [Act.put, List.setIfInBounds_toArray, List.set_cons_zero, List.set_cons_succ]
  refine takeL (i := 7) (v := ?_) rfl (by kernel_rfl) (by kernel_rfl) (by kernel_rfl) (fun _ _ _ h => h) (Or.inl ⟨by rfl, ?_⟩) (by assumption) ?_
  rotate_left
  · (intro W hSw; (try dsimp only at hSw); go_simp; try with_reducible rfl)
  try simp only [Act.put, List.setIfInBounds_toArray, List.set_cons_zero, List.set_cons_succ]
  refine takeL (i := 8) (v := ?_) rfl (by kernel_rfl) (by kernel_rfl) (by kernel_rfl) (fun _ _ _ h => h) (Or.inl ⟨by rfl, ?_⟩) (by assumption) ?_
  rotate_left
  · (intro W hSw; (try dsimp only at hSw); go_simp; try with_reducible rfl)
  try simp only [Act.put, List.setIfInBounds_toArray, List.set_cons_zero, List.set_cons_succ]
  refine takeL (i := 9) (v := ?_) rfl (by kernel_rfl) (by kernel_rfl) (by kernel_rfl) (fun _ _ _ h => h) (Or.inl ⟨by rfl, ?_⟩) (by assumption) ?_
  rotate_left
  · (intro W hSw; (try dsimp only at hSw); go_simp; try with_reducible rfl)
  try simp only [Act.put, List.setIfInBounds_toArray, List.set_cons_zero, List.set_cons_succ]
  refine takeL (i := 10) (v := ?_) rfl (by kernel_rfl) (by kernel_rfl) (by kernel_rfl) (fun _ _ _ h => h) (Or.inl ⟨by rfl, ?_⟩) (by assumption) ?_
  rotate_left
  · (intro W hSw; (try dsimp only at hSw); go_simp; try with_reducible rfl)
  try simp only [Act.put, List.setIfInBounds_toArray, List.set_cons_zero, List.set_cons_succ]
  refine takeL (i := 11) (v := ?_) rfl (by kernel_rfl) (by kernel_rfl) (by kernel_rfl) (fun _ _ _ h => h) (Or.inl ⟨by rfl, ?_⟩) (by assumption) ?_
  rotate_left
  · (intro W hSw; (try dsimp only at hSw); go_simp; try with_reducible rfl)
  try simp only [Act.put, List.setIfInBounds_toArray, List.set_cons_zero, List.set_cons_succ]
  refine takeL (i := 12) (v := ?_) rfl (by kernel_rfl) (by kernel_rfl) (by kernel_rfl) (fun _ _ _ h => h) (Or.inl ⟨by rfl, ?_⟩) (by assumption) ?_
  rotate_left
  · (intro W hSw; (try dsimp only at hSw); go_simp; try with_reducible rfl)
  try simp only [Act.put, List.setIfInBounds_toArray, List.set_cons_zero, List.set_cons_succ]
  refine takeL (i := 1) (v := .agg (hartC pc)) rfl (by kernel_rfl) (by kernel_rfl) (by kernel_rfl) (fun _ _ _ h => h) ?_ (by assumption) ?_
  · refine yieldsIf_load_row (by rfl) 29 _ (by rfl) g (by rfl) 29 (hartC pc) _ ?_ Tryz.underlying29 ?_ ?_
    · intro W hW; exact hW.1
    · rfl
    · as_aux_lemma => kernel_rfl
  try simp only [Act.put, List.setIfInBounds_toArray, List.set_cons_zero, List.set_cons_succ]
  refine takeL (i := 13) (v := ?_) rfl (by kernel_rfl) (by kernel_rfl) (by kernel_rfl) (fun _ _ _ h => h) (Or.inl ⟨by rfl, ?_⟩) (by assumption) ?_
  rotate_left
  · (intro W hSw; (try dsimp only at hSw); go_simp; try with_reducible rfl)
  try simp only [Act.put, List.setIfInBounds_toArray, List.set_cons_zero, List.set_cons_succ]
  refine readyL (i := 14) rfl (by kernel_rfl) (by rfl) (fun K hK => ?_)
  obtain ⟨z1, ⟨cs, z2, z3⟩, z4⟩ := hHeld
  refine wp_store_row 29 _ _ rfl (w.heap.size + 1) (hartC pc) rfl rfl 29 cs z2 (by as_aux_lemma => kernel_rfl) z3 (by as_aux_lemma => kernel_rfl) ?_
  refine hK.out _ _ ⟨z1.rowOther _ _ (by have := L7.out.r.lt; have := HG.out; omega), ⟨_, z2.row _, rfl⟩, ?_, ?_⟩ (fun hHeld2 => ?_)
  · rw [cell_setRow_other _ _ _ _ (by show w.heap.size ≠ w.heap.size + 1; omega)]; exact z4.1
  · rw [cell_setRow_other _ _ _ _ (by show w.heap.size ≠ w.heap.size + 1; omega)]; exact z4.2
  clear hK K
  have hHeld := hHeld2
  clear hHeld2
  try simp only [Act.put, List.setIfInBounds_toArray, List.set_cons_zero, List.set_cons_succ]
  refine takeL (i := 15) (v := ?_) rfl (by kernel_rfl) (by kernel_rfl) (by kernel_rfl) (fun _ _ _ h => h) (Or.inl ⟨by rfl, ?_⟩) (by assumption) ?_
  rotate_left
  · (intro W hSw; (try dsimp only at hSw); go_simp; try with_reducible rfl)
  try simp only [Act.put, List.setIfInBounds_toArray, List.set_cons_zero, List.set_cons_succ]
  refine takeL (i := 16) (v := ?_) rfl (by kernel_rfl) (by kernel_rfl) (by kernel_rfl) (fun _ _ _ h => h) (Or.inl ⟨by rfl, ?_⟩) (by assumption) ?_
  rotate_left
  · (intro W hSw; (try dsimp only at hSw); go_simp; try with_reducible rfl)
  try simp only [Act.put, List.setIfInBounds_toArray, List.set_cons_zero, List.set_cons_succ]
  refine wpAnyH_done (by kernel_rfl) ?_ _
  rw [ld_n3 a data.size bb HN.out.2.2.2.2.1 HN.out.2.2.1 (by have := HN.out.2.2.2.1; omega)]
  clear hHeld q1 q2 q3 q4 q5 g1 g2
  go_wp2_with fail
  have z5 := z2.row (hartC pc)
  have c9 : Chg (fun k => k = w.heap.size + 1) w7 (w8.drew.setRow (w.heap.size + 1) (hartC pc)) := (((C8.out.mono (fun _ h => h.elim)).drew).row _ _ (.inl rfl))
  have FIN : LdI S w q p F root m s4 (w8.drew.setRow (w.heap.size + 1) (hartC pc)) := ⟨M7.out.st, M7.out.pl.beside (S' := S) c9 (fun k e => .inr (.inr e)) (fun k h => .inl (.inl h)) (fun k h => Nat.lt_of_lt_of_le (M7.out.pl.lt k (.inl h)) c9.size), (L8.out.c.drew).rowNew _ _ (Nat.le_succ _)⟩
  obtain rfl : pc = 256 + en := HPC.out
  (try simp only [Exit.inBlock, Exit.then])
  refine bodyPost_ret (v := .tuple #[.int .i64 (root : Nat), .agg (hartC (256 + en)), .int .u64 ((256 * (1 + a) + data.size + bb : Nat) : Int), .int .i64 0]) ?_ rfl ⟨rfl, FIN⟩
  exact results_tctt (x := 4) (p := 5) (y := 6) (z := 7) (by rfl) _ _ (w.heap.size + 1) 29 (hartC (256 + en)) _ (by rfl) z5 Tryz.underlying29 rfl (by as_aux_lemma => kernel_rfl)
end Go.Proofs.YtijooajhjcfneaaGreat
