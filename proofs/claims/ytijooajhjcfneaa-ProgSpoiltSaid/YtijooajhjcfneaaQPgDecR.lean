/-
  A program's file, read by the document.
-/
import Derived.Test.YtijooajhjcfneaaQPgLaw
namespace Go.Proofs.Ytijooajhjcfneaa
open Go.RowKit

theorem decV_yes {s : ByteArray} (h : IsF s) : decV s = .tuple #[(xOf s).val, .int .i64 0] := by unfold decV; exact if_pos h
theorem decV_no {s : ByteArray} (h : ¬ IsF s) : decV s = .tuple #[.agg #[.int .i64 0, .string ⟨#[]⟩, .string ⟨#[]⟩, .int .i64 0], .int .i64 6] := by unfold decV; exact if_neg h
/-- where the lengths fit, what the document cuts is the same -/
theorem xOf_fit {s : ByteArray} {n d : Nat} (hn : n = wOf (s.extract 8 12)) (hd : d = wOf (s.extract 12 16)) (hL : s.size = 32 + n + d) : xOf s = ⟨(wOf (s.extract 4 8) : Nat), s.extract 32 (32 + n), s.extract (32 + n) s.size, (wOf (s.extract 16 20) : Nat)⟩ := by
  have e1 : posP s.size 0 4 = 4 := by unfold posP; omega
  have e2 : posP s.size 4 4 = 8 := by unfold posP; omega
  have e3 : posP s.size 8 4 = 12 := by unfold posP; omega
  have e4 : posP s.size 12 4 = 16 := by unfold posP; omega
  have e5 : posP s.size 16 4 = 20 := by unfold posP; omega
  have e6 : posP s.size 20 12 = 32 := by unfold posP; omega
  have e7 : posP s.size 32 n = 32 + n := by unfold posP; omega
  have e8 : posP s.size (32 + n) d = s.size := by unfold posP; omega
  unfold xOf
  simp only
  rw [e1, e2, e3, e4, e5, e6, ← hn, ← hd, e7, e8]
/-- the result's place beside what changes nothing else -/
theorem res_fin {w0 W : World} (hb : Blk W w0.heap.size #[.int .i64 0, .string ⟨#[]⟩, .string ⟨#[]⟩, .int .i64 0] 23) (hc : Chg (fun _ => False) w0 W) (a b c d : Value) : Blk ((((W.setCell ⟨w0.heap.size, 0, none⟩ a).setCell ⟨w0.heap.size, 1, none⟩ b).setCell ⟨w0.heap.size, 2, none⟩ c).setCell ⟨w0.heap.size, 3, none⟩ d) w0.heap.size #[a, b, c, d] 23 ∧ Chg (fun _ => False) w0 ((((W.setCell ⟨w0.heap.size, 0, none⟩ a).setCell ⟨w0.heap.size, 1, none⟩ b).setCell ⟨w0.heap.size, 2, none⟩ c).setCell ⟨w0.heap.size, 3, none⟩ d) := by
  have k := (((hb.set 0 a).set 1 b).set 2 c).set 3 d
  exact ⟨by simpa using k, (((hc.setCell _ _ (.inr (Nat.le_refl _))).setCell _ _ (.inr (Nat.le_refl _))).setCell _ _ (.inr (Nat.le_refl _))).setCell _ _ (.inr (Nat.le_refl _))⟩
/-- the result's place and the program that came to be -/
structure DeQ (w0 : World) (xb : Nat) (x : Array Value) (W : World) : Prop where
  bh : Blk W w0.heap.size #[.int .i64 0, .string ⟨#[]⟩, .string ⟨#[]⟩, .int .i64 0] 23
  bx : Blk W xb x 23
  chg : Chg (fun _ => False) w0 W
theorem DeQ.made (w0 : World) (x : Array Value) : DeQ w0 (w0.heap.size + 1) x (((w0.alloc (.cells #[.int .i64 0, .string ⟨#[]⟩, .string ⟨#[]⟩, .int .i64 0] 23)).alloc (.cells x 23)).drew) := by
  have h := Blk.new (w0.alloc (.cells #[.int .i64 0, .string ⟨#[]⟩, .string ⟨#[]⟩, .int .i64 0] 23)) x 23
  have z1 : (w0.alloc (.cells #[.int .i64 0, .string ⟨#[]⟩, .string ⟨#[]⟩, .int .i64 0] 23)).heap.size = w0.heap.size + 1 := by simp
  rw [z1] at h
  exact ⟨((Blk.new w0 _ _).alloc _).drew, h.drew, (((Chg.refl _ w0).alloc _).alloc _).drew⟩
theorem DeQ.nothing {w0 W W' : World} {xb : Nat} {x : Array Value} (h : DeQ w0 xb x W) (c : Chg (fun _ => False) W W') : DeQ w0 xb x W' := ⟨c.blk h.bh (fun a => a), c.blk h.bx (fun a => a), h.chg.trans c⟩
set_option maxRecDepth 100000 in
set_option maxHeartbeats 3200000 in
theorem q_decode (w : World) (s : ByteArray) (hs : s.size ≤ 9223372036854775807) :
    Calls Try.prog 12 #[.string s] w fun e w' => e = .returned (decV s) ∧ Chg (fun _ => False) w w' := by
  have B0 := Lib.hid (Blk.new w #[.int .i64 0, .string ⟨#[]⟩, .string ⟨#[]⟩, .int .i64 0] 23)
  have C0 := Lib.hid ((Chg.refl (fun _ => False) w).alloc (.cells #[.int .i64 0, .string ⟨#[]⟩, .string ⟨#[]⟩, .int .i64 0] 23))
  by_cases c32 : s.size < 32
  · have d1 : decide ((s.size : Int) < (32 : Int)) = true := decide_eq_true (by omega)
    rw [decV_no (fun h => by have := h.nums.1; omega)]
    go_enter Try.func12, Try.ntmps12
    go_wp2_with fail
    generalize w.alloc (.cells #[.int .i64 0, .string ⟨#[]⟩, .string ⟨#[]⟩, .int .i64 0] 23) = WE at *
    have r0 := B0.out.cellv 0 _ rfl
    have r1 := B0.out.cellv 1 _ rfl
    have r2 := B0.out.cellv 2 _ rfl
    have r3 := B0.out.cellv 3 _ rfl
    (try simp only [Exit.inBlock, Exit.then])
    refine bodyPost_ret (v := .tuple #[.agg #[.int .i64 0, .string ⟨#[]⟩, .string ⟨#[]⟩, .int .i64 0], .int .i64 6]) ?_ rfl ⟨rfl, C0.out⟩
    rw [results_cell_tmp rfl]
    go_simp
  · have d1 : decide ((s.size : Int) < (32 : Int)) = false := decide_eq_false (by omega)
    have KO := fun W t (h : t.size ≤ 4) => ref_of W t (by unfold maxLen; omega)
    have sz : ∀ a b, (s.extract a b).size ≤ b - a := fun a b => by rw [ByteArray.size_extract]; omega
    obtain ⟨n, hn⟩ : ∃ n, n = wOf (s.extract 8 12) := ⟨_, rfl⟩
    obtain ⟨d, hd⟩ : ∃ d, d = wOf (s.extract 12 16) := ⟨_, rfl⟩
    have hn4 : n < 4294967296 := by rw [hn]; exact wOf_lt32 _ (Nat.le_trans (sz _ _) (by decide))
    have hd4 : d < 4294967296 := by rw [hd]; exact wOf_lt32 _ (Nat.le_trans (sz _ _) (by decide))
    have K1 := fun W => KO W (s.extract 8 12) (Nat.le_trans (sz _ _) (by decide))
    have K2 := fun W => KO W (s.extract 12 16) (Nat.le_trans (sz _ _) (by decide))
    rw [← hn] at K1; rw [← hd] at K2
    have v1 : IntKind.i64.wrap (n : Int) = (n : Int) := i64_wrap_eq rfl (by omega)
    have v2 : IntKind.i64.wrap (d : Int) = (d : Int) := i64_wrap_eq rfl (by omega)
    have K1 := Lib.hid K1; have K2 := Lib.hid K2
    have y1 : (12 : Int) ≤ (s.size : Int) := by omega
    have y2 : (16 : Int) ≤ (s.size : Int) := by omega
    have w1 : wrap64 (32 + (n : Int)) = 32 + (n : Int) := by unfold wrap64; omega
    obtain ⟨T, hT⟩ : ∃ T, T = 32 + n + d := ⟨_, rfl⟩
    have w2 : wrap64 (32 + (n : Int) + (d : Int)) = (T : Int) := by unfold wrap64; omega
    have HN := Lib.hid (And.intro hn hd)
    clear hn hd KO sz
    by_cases c1 : 4096 < n
    · have z1 : decide ((4096 : Int) < (n : Int)) = true := decide_eq_true (by omega)
      rw [decV_no (fun h => by have h1 := h.nums.2.2.2.2.1; rw [← HN.out.1] at h1; omega)]
      go_enter Try.func12, Try.ntmps12
      go_wp2_with fail
      refine (K1.out _).mono ?_
      rintro e wq ⟨rfl, hw⟩
      rw [← hw]
      clear hw wq
      go_wp2_with fail
      refine (K2.out _).mono ?_
      rintro e wq ⟨rfl, hw⟩
      rw [← hw]
      clear hw wq
      go_wp2_with fail
      generalize w.alloc (.cells #[.int .i64 0, .string ⟨#[]⟩, .string ⟨#[]⟩, .int .i64 0] 23) = WE at *
      have r0 := B0.out.cellv 0 _ rfl
      have r1 := B0.out.cellv 1 _ rfl
      have r2 := B0.out.cellv 2 _ rfl
      have r3 := B0.out.cellv 3 _ rfl
      (try simp only [Exit.inBlock, Exit.then])
      refine bodyPost_ret (v := .tuple #[.agg #[.int .i64 0, .string ⟨#[]⟩, .string ⟨#[]⟩, .int .i64 0], .int .i64 6]) ?_ rfl ⟨rfl, C0.out⟩
      rw [results_cell_tmp rfl]
      go_simp
    have z1 : decide ((4096 : Int) < (n : Int)) = false := decide_eq_false (by omega)
    by_cases c2 : 4096 < d
    · have z2 : decide ((4096 : Int) < (d : Int)) = true := decide_eq_true (by omega)
      rw [decV_no (fun h => by have h1 := h.nums.2.2.2.2.2; rw [← HN.out.2] at h1; omega)]
      go_enter Try.func12, Try.ntmps12
      go_wp2_with fail
      refine (K1.out _).mono ?_
      rintro e wq ⟨rfl, hw⟩
      rw [← hw]
      clear hw wq
      go_wp2_with fail
      refine (K2.out _).mono ?_
      rintro e wq ⟨rfl, hw⟩
      rw [← hw]
      clear hw wq
      go_wp2_with fail
      generalize w.alloc (.cells #[.int .i64 0, .string ⟨#[]⟩, .string ⟨#[]⟩, .int .i64 0] 23) = WE at *
      have r0 := B0.out.cellv 0 _ rfl
      have r1 := B0.out.cellv 1 _ rfl
      have r2 := B0.out.cellv 2 _ rfl
      have r3 := B0.out.cellv 3 _ rfl
      (try simp only [Exit.inBlock, Exit.then])
      refine bodyPost_ret (v := .tuple #[.agg #[.int .i64 0, .string ⟨#[]⟩, .string ⟨#[]⟩, .int .i64 0], .int .i64 6]) ?_ rfl ⟨rfl, C0.out⟩
      rw [results_cell_tmp rfl]
      go_simp
    have z2 : decide ((4096 : Int) < (d : Int)) = false := decide_eq_false (by omega)
    by_cases c3 : s.size = T
    · have z3 : ((s.size : Int) != 32 + (n : Int) + (d : Int)) = false := by simpa using (show ((s.size : Int) = 32 + (n : Int) + (d : Int)) by omega)
      have hX := xOf_fit HN.out.1 HN.out.2 (c3.trans hT)
      obtain ⟨en, hen⟩ : ∃ v, v = wOf (s.extract 4 8) := ⟨_, rfl⟩
      obtain ⟨b, hb⟩ : ∃ v, v = wOf (s.extract 16 20) := ⟨_, rfl⟩
      have sz : ∀ a b, (s.extract a b).size ≤ b - a := fun a b => by rw [ByteArray.size_extract]; omega
      have hen4 : en < 4294967296 := by rw [hen]; exact wOf_lt32 _ (Nat.le_trans (sz _ _) (by decide))
      have hb4 : b < 4294967296 := by rw [hb]; exact wOf_lt32 _ (Nat.le_trans (sz _ _) (by decide))
      have K3 := fun W => ref_of W (s.extract 4 8) (by have := sz 4 8; unfold maxLen; omega)
      have K4 := fun W => ref_of W (s.extract 16 20) (by have := sz 16 20; unfold maxLen; omega)
      rw [← hen, ← hb] at hX; rw [← hen] at K3; rw [← hb] at K4
      have v3 : IntKind.i64.wrap (en : Int) = (en : Int) := i64_wrap_eq rfl (by omega)
      have v4 : IntKind.i64.wrap (b : Int) = (b : Int) := i64_wrap_eq rfl (by omega)
      have K3 := Lib.hid K3; have K4 := Lib.hid K4
      have SM : (xOf s).Small := by
        rw [hX]
        exact ⟨by show (s.extract 32 (32 + n)).size ≤ _; rw [ByteArray.size_extract]; omega, by show (s.extract (32 + n) s.size).size ≤ _; rw [ByteArray.size_extract]; omega⟩
      have K9 := fun W => q_encode W (xOf s) SM
      have YES := fun h => decV_yes (s := s) h
      have NO := fun h => decV_no (s := s) h
      unfold IsF at YES NO
      have hval : (xOf s).val = .agg #[.int .i64 (en : Nat), .string (s.extract 32 (32 + n)), .string (s.extract (32 + n) s.size), .int .i64 (b : Nat)] := by rw [hX]; rfl
      generalize xOf s = X at *
      rw [hval] at K9 YES
      generalize decV s = DV at *
      have y3 : (20 : Int) ≤ (s.size : Int) := by omega
      have y4 : (8 : Int) ≤ (s.size : Int) := by omega
      obtain ⟨N, hN⟩ : ∃ N, N = 32 + n := ⟨_, rfl⟩
      have HWQ := Lib.hid (show IntKind.i64.wrap (32 + (n : Int)) = (N : Int) from i64_wrap_eq (by omega) (by omega))
      have y5 : (N : Int) ≤ (s.size : Int) := by omega
      have y6 : (32 : Int) ≤ (N : Int) := by omega
      have y7 : (0 : Int) ≤ (N : Int) := by omega
      rw [← hN] at K9 YES
      clear hN hX hval
      have K9 := Lib.hid K9; have YES := Lib.hid YES; have NO := Lib.hid NO
      clear hen hb hen4 hb4 sz SM hT c3
      go_enter Try.func12, Try.ntmps12
      go_wp2_with fail
      refine (K1.out _).mono ?_
      rintro e wq ⟨rfl, hw⟩
      rw [← hw]
      clear hw wq
      go_wp2_with fail
      refine (K2.out _).mono ?_
      rintro e wq ⟨rfl, hw⟩
      rw [← hw]
      clear hw wq
      go_wp2_with fail
      have wq := HWQ.out
      go_region_held3 (fun w' => True) (first | assumption | exact True.intro | (simp [*]; done))
        (first
          | (go_at_call 28; (first | with_reducible refine (K3.out _).mono ?_ | with_reducible refine (K4.out _).mono ?_); rintro e v1 ⟨rfl, hw⟩; rw [← hw]; clear hw))
      all_goals
        have M8 := Lib.hid (DeQ.made w #[.int .i64 (en : Nat), .string (s.extract 32 N), .string (s.extract N s.size), .int .i64 (b : Nat)])
        generalize s.extract 32 N = text at *
        generalize s.extract N s.size = data at *
        go_wp2_with fail
        refine (K9.out _).mono ?_
        rintro e w9 ⟨rfl, c9⟩
        have M9 := Lib.hid (M8.out.nothing c9)
        have x0 := M9.out.bx.cellv 0 _ rfl
        have x1 := M9.out.bx.cellv 1 _ rfl
        have x2 := M9.out.bx.cellv 2 _ rfl
        have x3 := M9.out.bx.cellv 3 _ rfl
        have g0 := M9.out.bh.free 0
        have g1 := M9.out.bh.free 1
        have g2 := M9.out.bh.free 2
        have g3 := M9.out.bh.free 3
        have q0 := M9.out.bh.cellv 0 _ rfl
        have q1 := M9.out.bh.cellv 1 _ rfl
        have q2 := M9.out.bh.cellv 2 _ rfl
        have q3 := M9.out.bh.cellv 3 _ rfl
        clear c9 M8
        cases hm : X.may with
        | false =>
          have e1 : encV X = .tuple #[.string ⟨#[]⟩, .int .i64 6] := by unfold encV; rw [hm]; rfl
          have E2 := Lib.hid (NO.out (by rw [hm]; rintro ⟨h, _⟩; cases h))
          rw [e1]
          go_wp2_with fail
          have FB := res_fin M9.out.bh M9.out.chg (.int .i64 0) (.string ⟨#[]⟩) (.string ⟨#[]⟩) (.int .i64 0)
          generalize ((((w9.setCell ⟨w.heap.size, 0, none⟩ (.int .i64 0)).setCell ⟨w.heap.size, 1, none⟩ (.string ⟨#[]⟩)).setCell ⟨w.heap.size, 2, none⟩ (.string ⟨#[]⟩)).setCell ⟨w.heap.size, 3, none⟩ (.int .i64 0)) = WE at *
          have r0 := FB.1.cellv 0 _ rfl
          have r1 := FB.1.cellv 1 _ rfl
          have r2 := FB.1.cellv 2 _ rfl
          have r3 := FB.1.cellv 3 _ rfl
          (try simp only [Exit.inBlock, Exit.then])
          refine bodyPost_ret (v := .tuple #[.agg #[.int .i64 0, .string ⟨#[]⟩, .string ⟨#[]⟩, .int .i64 0], .int .i64 6]) ?_ rfl ⟨congrArg Ending.returned E2.out.symm, FB.2⟩
          rw [results_cell_tmp rfl]
          go_simp
        | true =>
          have e1 : encV X = .tuple #[.string (encB X), .int .i64 0] := by unfold encV; rw [if_pos hm]
          rw [e1]
          by_cases hq : encB X = s
          · have z1 : ((encB X).toList == s.toList) = true := by rw [hq]; simp
            have E2 := Lib.hid (YES.out ⟨hm, hq⟩)
            clear hq YES NO
            generalize encB X = eb at *
            go_wp2_with fail
            have FB := res_fin M9.out.bh M9.out.chg (.int .i64 (en : Nat)) (.string text) (.string data) (.int .i64 (b : Nat))
            generalize ((((w9.setCell ⟨w.heap.size, 0, none⟩ (.int .i64 (en : Nat))).setCell ⟨w.heap.size, 1, none⟩ (.string text)).setCell ⟨w.heap.size, 2, none⟩ (.string data)).setCell ⟨w.heap.size, 3, none⟩ (.int .i64 (b : Nat))) = WE at *
            have r0 := FB.1.cellv 0 _ rfl
            have r1 := FB.1.cellv 1 _ rfl
            have r2 := FB.1.cellv 2 _ rfl
            have r3 := FB.1.cellv 3 _ rfl
            (try simp only [Exit.inBlock, Exit.then])
            refine bodyPost_ret (v := .tuple #[.agg #[.int .i64 (en : Nat), .string text, .string data, .int .i64 (b : Nat)], .int .i64 0]) ?_ rfl ⟨congrArg Ending.returned E2.out.symm, FB.2⟩
            rw [results_cell_tmp rfl]
            go_simp
          · have z1 := tl_ne hq
            have E2 := Lib.hid (NO.out (fun h => hq h.2))
            clear hq YES NO
            generalize encB X = eb at *
            go_wp2_with fail
            have FB := res_fin M9.out.bh M9.out.chg (.int .i64 0) (.string ⟨#[]⟩) (.string ⟨#[]⟩) (.int .i64 0)
            generalize ((((w9.setCell ⟨w.heap.size, 0, none⟩ (.int .i64 0)).setCell ⟨w.heap.size, 1, none⟩ (.string ⟨#[]⟩)).setCell ⟨w.heap.size, 2, none⟩ (.string ⟨#[]⟩)).setCell ⟨w.heap.size, 3, none⟩ (.int .i64 0)) = WE at *
            have r0 := FB.1.cellv 0 _ rfl
            have r1 := FB.1.cellv 1 _ rfl
            have r2 := FB.1.cellv 2 _ rfl
            have r3 := FB.1.cellv 3 _ rfl
            (try simp only [Exit.inBlock, Exit.then])
            refine bodyPost_ret (v := .tuple #[.agg #[.int .i64 0, .string ⟨#[]⟩, .string ⟨#[]⟩, .int .i64 0], .int .i64 6]) ?_ rfl ⟨congrArg Ending.returned E2.out.symm, FB.2⟩
            rw [results_cell_tmp rfl]
            go_simp
    · have z3 : ((s.size : Int) != 32 + (n : Int) + (d : Int)) = true := by simpa using (show ¬ ((s.size : Int) = 32 + (n : Int) + (d : Int)) by omega)
      rw [decV_no (fun h => by have h1 := h.nums.2.2.2.1; rw [← HN.out.1, ← HN.out.2] at h1; omega)]
      clear hT
      go_enter Try.func12, Try.ntmps12
      go_wp2_with fail
      refine (K1.out _).mono ?_
      rintro e wq ⟨rfl, hw⟩
      rw [← hw]
      clear hw wq
      go_wp2_with fail
      refine (K2.out _).mono ?_
      rintro e wq ⟨rfl, hw⟩
      rw [← hw]
      clear hw wq
      go_wp2_with fail
      generalize w.alloc (.cells #[.int .i64 0, .string ⟨#[]⟩, .string ⟨#[]⟩, .int .i64 0] 23) = WE at *
      have r0 := B0.out.cellv 0 _ rfl
      have r1 := B0.out.cellv 1 _ rfl
      have r2 := B0.out.cellv 2 _ rfl
      have r3 := B0.out.cellv 3 _ rfl
      (try simp only [Exit.inBlock, Exit.then])
      refine bodyPost_ret (v := .tuple #[.agg #[.int .i64 0, .string ⟨#[]⟩, .string ⟨#[]⟩, .int .i64 0], .int .i64 6]) ?_ rfl ⟨rfl, C0.out⟩
      rw [results_cell_tmp rfl]
      go_simp
end Go.Proofs.Ytijooajhjcfneaa
