/-
  The document's Need: as many frames as the program's.
-/
import Derived.Test.YtijooajhjcfneaaGreatG26
namespace Go.Proofs.YtijooajhjcfneaaGreat
open Go.RowKit

/-- while Need marks tables -/
structure NdI (w0 : World) (g : Nat) (z o : Bool) (W : World) : Prop where
  had : ∃ f, Had W g 4 f ∧ f 0 = z ∧ f 1 = o ∧ f 2 = false ∧ f 3 = false
  ge : w0.heap.size ≤ g
  chg : Chg (fun _ => False) w0 W
theorem NdI.mark0 {w0 W : World} {g : Nat} {z o : Bool} (h : NdI w0 g z o W) : NdI w0 g true o (W.setCell ⟨g, 0, none⟩ (.bool true)) := by
  obtain ⟨⟨f, hf, h0, h1, h2, h3⟩, hg, c⟩ := h
  exact ⟨⟨_, hf.set (by decide) true, by unfold setF; rw [if_pos rfl], by unfold setF; rw [if_neg (by decide)]; exact h1, by unfold setF; rw [if_neg (by decide)]; exact h2, by unfold setF; rw [if_neg (by decide)]; exact h3⟩, hg, c.setCell _ _ (.inr hg)⟩
theorem NdI.mark1 {w0 W : World} {g : Nat} {z o : Bool} (h : NdI w0 g z o W) : NdI w0 g z true (W.setCell ⟨g, 1, none⟩ (.bool true)) := by
  obtain ⟨⟨f, hf, h0, h1, h2, h3⟩, hg, c⟩ := h
  exact ⟨⟨_, hf.set (by decide) true, by unfold setF; rw [if_neg (by decide)]; exact h0, by unfold setF; rw [if_pos rfl], by unfold setF; rw [if_neg (by decide)]; exact h2, by unfold setF; rw [if_neg (by decide)]; exact h3⟩, hg, c.setCell _ _ (.inr hg)⟩
theorem NdI.cells {w0 W : World} {g : Nat} {z o : Bool} (h : NdI w0 g z o W) : W.cell? ⟨g, 0, none⟩ = some (.bool z) ∧ W.cell? ⟨g, 1, none⟩ = some (.bool o) ∧ W.cell? ⟨g, 2, none⟩ = some (.bool false) ∧ W.cell? ⟨g, 3, none⟩ = some (.bool false) ∧ ∀ i, W.frozen? ⟨g, i, none⟩ = false := by
  obtain ⟨⟨f, hf, h0, h1, h2, h3⟩, hg, c⟩ := h
  exact ⟨h0 ▸ hf.cell 0 (by decide), h1 ▸ hf.cell 1 (by decide), h2 ▸ hf.cell 2 (by decide), h3 ▸ hf.cell 3 (by decide), hf.free⟩
theorem NdI.made (w0 W : World) (c : Chg (fun _ => False) w0 W) : NdI w0 W.heap.size false false (W.alloc (.cells (falses 4) BoT)) :=
  ⟨⟨fun _ => false, ⟨falses 4, Blk.new _ _ _, by unfold falses; simp [madeCells], fun i hi => falses_get 4 i hi⟩, rfl, rfl, rfl, rfl⟩, c.size, c.alloc _⟩
theorem make4 (W : World) : (Instr.makeSlice 54 (.int .i64 4) (.int .i64 4)).run Tryz.prog W = .ok (.slice (some ⟨W.heap.size, 0, none⟩) 4 4) (W.alloc (.cells (falses 4) BoT)) := make_bools W 4 (by decide)
theorem nd_quo (i : Nat) (h : i ≤ 28) : (i : Int).tdiv 32 = 0 ∧ (i : Int) / 32 = 0 := by
  have : (i : Int) / 32 = 0 := by omega
  exact ⟨by rw [Int.tdiv_eq_ediv_of_nonneg (by omega)]; exact this, this⟩
theorem nd_sum (a b m : Nat) (hm : m = a + b) (h : m ≤ 28) : wrap64 ((a : Int) + (b : Int)) = (m : Int) ∧ IntKind.i64.wrap ((a : Int) + (b : Int)) = (m : Int) := ⟨by unfold wrap64; omega, i64_wrap_eq (by omega) (by omega)⟩
theorem nd_s8 (m n : Nat) (hn : n = m + 8) (h : m ≤ 28) : wrap64 ((m : Int) + 8) = (n : Int) ∧ IntKind.i64.wrap ((m : Int) + 8) = (n : Int) := ⟨by unfold wrap64; omega, i64_wrap_eq (by omega) (by omega)⟩
theorem nd_s1 (m n : Nat) (hn : n = m + 1) (h : m ≤ 100) : wrap64 ((m : Int) + 1) = (n : Int) ∧ IntKind.i64.wrap ((m : Int) + 1) = (n : Int) := ⟨by unfold wrap64; omega, i64_wrap_eq (by omega) (by omega)⟩
theorem nd_s2 (m n : Nat) (hn : n = m + 2) (h : m ≤ 100) : wrap64 ((m : Int) + 2) = (n : Int) ∧ IntKind.i64.wrap ((m : Int) + 2) = (n : Int) := ⟨by unfold wrap64; omega, i64_wrap_eq (by omega) (by omega)⟩
set_option maxRecDepth 100000 in
set_option maxHeartbeats 1600000 in
theorem q_need12 (w : World) (x : Prg) (h : x.Small) (hx : x.may = true) (m : Nat) (hm : m = pagesN x.text.size + pagesN (x.data.size + x.bss.toNat)) :
    Calls Tryz.prog 34 #[x.val] w fun r w' => r = .returned (.int .i64 ((m + 12 : Nat) : Int)) ∧ Chg (fun _ => False) w w' := by
  obtain ⟨m1, m2, m3, m4, m5, m6, m7, m8, m9, m10⟩ := may_nums hx
  have K1 := fun W => q_size W x h
  have e2 : sizeV2 x = .tuple #[.int .i64 (pagesN x.text.size : Nat), .int .i64 (pagesN (x.data.size + x.bss.toNat) : Nat)] := by unfold sizeV2; rw [if_pos hx]
  rw [e2] at K1
  obtain ⟨a, ha⟩ : ∃ a, a = pagesN x.text.size := ⟨_, rfl⟩
  obtain ⟨b, hb⟩ : ∃ b, b = pagesN (x.data.size + x.bss.toNat) := ⟨_, rfl⟩
  rw [← ha, ← hb] at hm K1
  have hm28 : m ≤ 28 := by rw [hm, ha, hb]; unfold pagesN; omega
  have hm1 : 1 ≤ m := by rw [hm, ha]; unfold pagesN; omega
  clear e2 ha hb m1 m2 m3 m4 m5 m6 m7 m8 m9 m10 hx h
  obtain ⟨en, text, data, bs⟩ := x
  unfold Prg.val at *
  simp only at K1
  obtain ⟨u1, u2⟩ := nd_sum a b m hm hm28
  obtain ⟨n8, hn8⟩ : ∃ n8, n8 = m + 8 := ⟨_, rfl⟩
  obtain ⟨u3, u4⟩ := nd_s8 m n8 hn8 hm28
  have C0 := Lib.hid ((Chg.refl (fun _ => False) w).alloc (.cells #[.int .i64 en, .string text, .string data, .int .i64 bs] 23))
  have K1 := Lib.hid K1
  have HM := Lib.hid (And.intro hm28 (And.intro hm1 hn8))
  have mk := make4
  clear hm hm28 hm1 hn8
  go_enter Tryz.func34, Tryz.ntmps34
  go_wp2_with fail
  refine (K1.out _).mono ?_
  rintro e w1 ⟨rfl, c1⟩
  have N0 := Lib.hid (NdI.made w w1 (C0.out.trans c1)); clear c1
  go_wp2_with fail
  generalize w1.heap.size = g at *
  generalize w1.alloc (.cells (falses 4) BoT) = w2 at *
  go_loopw [7] (fun i wr => ∃ k : Nat, 1 ≤ k ∧ k ≤ m + 1 ∧ i = .int .i64 (k : Nat) ∧ Hid (NdI w g (decide (1 < k)) false wr)) (fun i _ => m + 1 - (intOf i).toNat)
  case atStart => exact ⟨1, by omega, by omega, rfl, N0⟩
  case round =>
    obtain ⟨k, hk1, hk, rfl, HN⟩ := hrel
    by_cases hlt : k ≤ m
    · have d1 : decide ((k : Int) ≤ (m : Int)) = true := decide_eq_true (by omega)
      have hm28 := HM.out.1
      obtain ⟨q1, q2⟩ := nd_quo k (by omega)
      obtain ⟨c0, c1, c2, c3, fz⟩ := HN.out.cells
      have f0 := fz 0
      have N1 := Lib.hid HN.out.mark0
      clear fz
      go_wp2_with fail
      go_roundw
      case rel => exact ⟨k + 1, by omega, by omega, by go_num, by rw [decide_eq_true (show 1 < k + 1 by omega)]; exact N1⟩
      case measure => simp [intOf]; omega
    · have d1 : decide ((k : Int) ≤ (m : Int)) = false := decide_eq_false (by omega)
      have hm1 := HM.out.2.1
      have e1 : decide (1 < k) = true := decide_eq_true (by omega)
      rw [e1] at HN
      obtain ⟨c0, c1, c2, c3, fz⟩ := HN.out.cells
      have f1 := fz 1
      have N1 := Lib.hid HN.out.mark1
      clear fz
      go_wp2_with fail
      clear c0 c1 c2 c3 f1
      go_loopw [6, 8] (fun n i wr => ∃ k : Nat, k ≤ 4 ∧ i = .int .i64 (k : Nat) ∧ n = .int .i64 ((n8 + min k 2 : Nat) : Int) ∧ Hid (NdI w g true true wr)) (fun _ i _ => 4 - (intOf i).toNat)
      case atStart => exact ⟨0, by omega, rfl, rfl, N1⟩
      case round =>
        obtain ⟨k, hk, rfl, rfl, HN⟩ := hrel
        have hm28 := HM.out.1
        have hn8 := HM.out.2.2
        by_cases h4 : k < 4
        · have d4 : decide ((k : Int) < 4) = true := decide_eq_true (by omega)
          have d5 : decide (k < 4) = true := decide_eq_true h4
          have y0 : (0 : Int) ≤ (k : Int) := by omega
          have y1 : (k : Int) < 4 := by omega
          obtain ⟨c0, c1, c2, c3, fz⟩ := HN.out.cells
          clear fz
          obtain ⟨nn, hnn⟩ : ∃ nn, nn = n8 + min k 2 := ⟨_, rfl⟩
          rw [← hnn]
          obtain ⟨v1, v2⟩ := nd_s1 nn (nn + 1) rfl (by omega)
          have HNN := Lib.hid hnn
          have H4 := Lib.hid h4
          clear hnn
          rcases (show k = 0 ∨ k = 1 ∨ k = 2 ∨ k = 3 by omega) with rfl | rfl | rfl | rfl
          · go_wp2_with fail
            go_roundw
            case rel => exact ⟨1, by omega, by go_num, by rw [HNN.out]; first | rfl | go_num, HN⟩
            case measure => simp [intOf]
          · go_wp2_with fail
            go_roundw
            case rel => exact ⟨2, by omega, by go_num, by rw [HNN.out]; first | rfl | go_num, HN⟩
            case measure => simp [intOf]
          · go_wp2_with fail
            go_roundw
            case rel => exact ⟨3, by omega, by go_num, by rw [HNN.out]; first | rfl | go_num, HN⟩
            case measure => simp [intOf]
          · go_wp2_with fail
            go_roundw
            case rel => exact ⟨4, by omega, by go_num, by rw [HNN.out]; first | rfl | go_num, HN⟩
            case measure => simp [intOf]
        · have d4 : decide ((k : Int) < 4) = false := decide_eq_false (by omega)
          obtain rfl : k = 4 := by omega
          obtain ⟨nn, hnn⟩ : ∃ nn, nn = n8 + min 4 2 := ⟨_, rfl⟩
          rw [← hnn]
          obtain ⟨v1, v2⟩ := nd_s2 nn (nn + 2) rfl (by omega)
          have E := Lib.hid (show nn + 2 = m + 12 by omega)
          clear hnn
          go_wp2_with fail
          go_ret
          exact ⟨ret_int (by have := E.out; omega), HN.out.chg⟩
end Go.Proofs.YtijooajhjcfneaaGreat
