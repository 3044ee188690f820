/-
  A program's file and size, as the document has them.
-/
import Derived.Test.YtijooajhjcfneaaQPgDec2
namespace Go.Proofs.Ytijooajhjcfneaa
open Go.RowKit

theorem q_pages12 (w : World) (n : Nat) (h : n ≤ 100000) : Calls Try.prog 30 #[.int .i64 n] w fun e w' => e = .returned (.int .i64 (pagesN n : Nat)) ∧ w = w' := by
  obtain ⟨d, hd⟩ : ∃ d, d = n / 256 := ⟨_, rfl⟩
  obtain ⟨m, hm⟩ : ∃ m, m = n % 256 := ⟨_, rfl⟩
  have q1 : (n : Int).tdiv 256 = (d : Int) := by rw [Int.tdiv_eq_ediv_of_nonneg (by omega)]; omega
  have q2 : (n : Int) / 256 = (d : Int) := by omega
  have q3 : (n : Int).tmod 256 = (m : Int) := by rw [Int.tmod_eq_emod_of_nonneg (by omega)]; omega
  have q4 : (n : Int) % 256 = (m : Int) := by omega
  have w1 : wrap64 (d : Int) = (d : Int) := by unfold wrap64; omega
  have w2 : wrap64 ((d : Int) + 1) = (d : Int) + 1 := by unfold wrap64; omega
  by_cases c : 0 < m
  · have d1 : decide ((0 : Int) < (m : Int)) = true := decide_eq_true (by omega)
    have e : pagesN n = d + 1 := by unfold pagesN; omega
    rw [e]
    clear hd hm e
    go_enter Try.func30, Try.ntmps30
    go_wp2_with fail
    go_ret
    exact ⟨by simp, rfl⟩
  · have d1 : decide ((0 : Int) < (m : Int)) = false := decide_eq_false (by omega)
    have e : pagesN n = d := by unfold pagesN; omega
    rw [e]
    clear hd hm e
    go_enter Try.func30, Try.ntmps30
    go_wp2_with fail
    go_ret
    exact ⟨rfl, rfl⟩
set_option maxRecDepth 100000 in
set_option maxHeartbeats 1600000 in
theorem q_size (w : World) (x : Prg) (h : x.Small) :
    Calls Try.prog 14 #[x.val] w fun r w' => r = .returned (sizeV2 x) ∧ Chg (fun _ => False) w w' := by
  have KM := Lib.hid (fun W => q_may W x h)
  cases hm : x.may with
  | false =>
    rw [hm] at KM
    have e : sizeV2 x = .tuple #[.int .i64 0, .int .i64 0] := by unfold sizeV2; rw [hm]; rfl
    rw [e]
    have C0 := Lib.hid ((Chg.refl (fun _ => False) w).alloc (.cells #[.int .i64 x.entry, .string x.text, .string x.data, .int .i64 x.bss] 23))
    unfold Prg.val at *
    go_enter Try.func14, Try.ntmps14
    go_wp2_with fail
    refine (KM.out _).mono ?_
    rintro e w1 ⟨rfl, c1⟩
    have C1 := Lib.hid (C0.out.trans c1); clear c1
    go_wp2_with fail
    go_ret2
    exact ⟨rfl, C1.out⟩
  | true =>
    rw [hm] at KM
    have e : sizeV2 x = .tuple #[.int .i64 (pagesN x.text.size : Nat), .int .i64 (pagesN (x.data.size + x.bss.toNat) : Nat)] := by unfold sizeV2; rw [if_pos hm]
    rw [e]
    obtain ⟨m1, m2, m3, m4, m5, m6, m7, m8, m9, m10⟩ := may_nums hm
    obtain ⟨en, text, data, bs⟩ := x
    obtain ⟨b, rfl⟩ := Int.eq_ofNat_of_zero_le m8
    have m9' : b ≤ 4096 := by have : ((b : Nat) : Int) ≤ 4096 := m9; omega
    simp only [Int.toNat_natCast]
    have C0 := Lib.hid ((Chg.refl (fun _ => False) w).alloc (.cells #[.int .i64 en, .string text, .string data, .int .i64 (b : Int)] 23))
    have hB := Blk.new w #[.int .i64 en, .string text, .string data, .int .i64 (b : Int)] 23
    unfold Prg.val at *
    simp only at *
    have HB := Lib.hid hB
    clear hB
    generalize hn : text.size = n at *
    generalize hd : data.size = d at *
    have K1 := Lib.hid (fun W => q_pages12 W n (by omega))
    have K2 := fun W => q_pages12 W (d + b) (by omega)
    rw [show ((d + b : Nat) : Int) = (d : Int) + (b : Int) from by omega] at K2
    have K2 := Lib.hid K2
    have ws : IntKind.i64.wrap ((d : Int) + (b : Int)) = (d : Int) + (b : Int) := i64_wrap_eq rfl (by omega)
    have ws2 : wrap64 ((d : Int) + (b : Int)) = (d : Int) + (b : Int) := by unfold wrap64; omega
    generalize pagesN n = pn at *
    generalize pagesN (d + b) = pd at *
    clear m1 m2 m3 m4 m5 m6 m7 m8 m9 m10 m9' hm e h
    go_enter Try.func14, Try.ntmps14
    go_wp2_with fail
    refine (KM.out _).mono ?_
    rintro e w1 ⟨rfl, c1⟩
    have C1 := Lib.hid (C0.out.trans c1)
    have B1 := c1.blk HB.out (fun a => a)
    have x1 := B1.cellv 1 _ rfl
    have x2 := B1.cellv 2 _ rfl
    have x3 := B1.cellv 3 _ rfl
    clear c1 B1
    go_wp2_with fail
    go_quiet ((go_at_call 30; (first | with_reducible exact quiet_left (K1.out _) | with_reducible exact quiet_left (K2.out _))))
    go_wp2_with fail
    go_ret2
    exact ⟨rfl, C1.out.drewN _⟩
/-- the program's block, in a world behind calls that change nothing -/
structure EncK (w0 : World) (bx : Nat) (cs : Array Value) (W : World) : Prop where
  b : Blk W bx cs 23
  c : Chg (fun _ => False) w0 W
theorem EncK.step {w0 W W' : World} {bx : Nat} {cs : Array Value} (h : EncK w0 bx cs W) (c : Chg (fun _ => False) W W') : EncK w0 bx cs W' := ⟨c.blk h.b (fun a => a), h.c.trans c⟩
theorem EncK.drew {w0 W : World} {bx : Nat} {cs : Array Value} (h : EncK w0 bx cs W) : EncK w0 bx cs W.drew := h.step (Chg.refl _ _).drew
theorem EncK.cells {w0 W : World} {bx : Nat} {a b c d : Value} (h : EncK w0 bx #[a, b, c, d] W) : W.cell? ⟨bx, 0, none⟩ = some a ∧ W.cell? ⟨bx, 1, none⟩ = some b ∧ W.cell? ⟨bx, 2, none⟩ = some c ∧ W.cell? ⟨bx, 3, none⟩ = some d :=
  ⟨h.b.cellv 0 _ rfl, h.b.cellv 1 _ rfl, h.b.cellv 2 _ rfl, h.b.cellv 3 _ rfl⟩
theorem memStr_zeros : memStr (fun _ => 0) 0 12 = zerosB 12 := by decide +kernel
theorem make12 (W : World) : (Instr.makeSlice 55 (.int .i64 12) (.int .i64 12)).run Try.prog W = .ok (.slice (some ⟨W.heap.size, 0, none⟩) 12 12) (W.alloc (.cells (zeros 12) ByT)) := make_bytes W 12 (by decide)
theorem conv12 (W : World) : (convert 55 9 (.slice (some ⟨W.heap.size, 0, none⟩) 12 12)).run Try.prog (W.alloc (.cells (zeros 12) ByT)) = .ok (.string (zerosB 12)) (W.alloc (.cells (zeros 12) ByT)) := by
  rw [row_string (W.alloc (.cells (zeros 12) ByT)) W.heap.size 12 (fun _ => 0) (row_zeros W 12) 0 0 12 12 (fun _ => rfl) (by decide), memStr_zeros]
theorem conv12d (W : World) : (convert 55 9 (.slice (some ⟨W.heap.size, 0, none⟩) 12 12)).run Try.prog (W.alloc (.cells (zeros 12) ByT)).drew = .ok (.string (zerosB 12)) (W.alloc (.cells (zeros 12) ByT)).drew := by
  have hr : Row (W.alloc (.cells (zeros 12) ByT)).drew W.heap.size 12 (fun _ => 0) := by
    obtain ⟨cs, h1, h2⟩ := row_zeros W 12
    exact ⟨cs, h1.drew, h2⟩
  rw [row_string _ W.heap.size 12 (fun _ => 0) hr 0 0 12 12 (fun _ => rfl) (by decide), memStr_zeros]
set_option maxRecDepth 100000 in
set_option maxHeartbeats 3200000 in
theorem q_encode (w : World) (x : Prg) (h : x.Small) :
    Calls Try.prog 10 #[x.val] w fun r w' => r = .returned (encV x) ∧ Chg (fun _ => False) w w' := by
  have KM := fun W => q_may W x h
  cases hm : x.may with
  | false =>
    rw [hm] at KM
    have KM := Lib.hid KM
    have e : encV x = .tuple #[.string ⟨#[]⟩, .int .i64 6] := by unfold encV; rw [hm]; rfl
    rw [e]
    have C0 := Lib.hid ((Chg.refl (fun _ => False) w).alloc (.cells #[.int .i64 x.entry, .string x.text, .string x.data, .int .i64 x.bss] 23))
    unfold Prg.val at *
    go_enter Try.func10, Try.ntmps10
    go_wp2_with fail
    refine (KM.out _).mono ?_
    rintro e w1 ⟨rfl, c1⟩
    have C1 := Lib.hid (C0.out.trans c1); clear c1
    go_wp2_with fail
    go_ret2
    exact ⟨rfl, C1.out⟩
  | true =>
    rw [hm] at KM
    have KM := Lib.hid KM
    have e : encV x = .tuple #[.string (encB x), .int .i64 0] := by unfold encV; rw [if_pos hm]
    rw [e]
    obtain ⟨m1, m2, m3, m4, m5, m6, m7, m8, m9, m10⟩ := may_nums hm
    have FIN := Lib.hid (show hdB x 4 ++ zerosB 12 ++ x.text ++ x.data = encB x from rfl)
    obtain ⟨s0, s1, s2, s3, s4⟩ := hdB_size x
    obtain ⟨a1, a2, a3, a4⟩ := hd_step x
    have hz0 : hdB x 0 = ⟨#[66, 75, 80, 1]⟩ := rfl
    generalize encB x = EB at *
    obtain ⟨en, text, data, bs⟩ := x
    simp only at m1 m2 m3 m4 m5 m6 m7 m8 m9 m10 a1 a2 a3 a4
    obtain ⟨b, rfl⟩ := Int.eq_ofNat_of_zero_le m8
    obtain ⟨en, rfl⟩ := Int.eq_ofNat_of_zero_le m4
    simp only [Int.toNat_natCast] at a1 a2 a3 a4
    have C0 := Lib.hid ((Chg.refl (fun _ => False) w).alloc (.cells #[.int .i64 (en : Int), .string text, .string data, .int .i64 (b : Int)] 23))
    have HB := Lib.hid (Blk.new w #[.int .i64 (en : Int), .string text, .string data, .int .i64 (b : Int)] 23)
    generalize hdB ⟨(en : Int), text, data, (b : Int)⟩ = H at *
    unfold Prg.val at *
    simp only at KM FIN
    have KB := Lib.hid (fun W (v : Nat) (hv : v < 18446744073709551616) => ref_bytes W v hv 4)
    have v1 : IntKind.u64.wrap (en : Int) = (en : Int) := u64_wrap_lt en (by omega)
    have v2 : IntKind.u64.wrap (text.size : Int) = (text.size : Int) := u64_wrap_lt _ (by omega)
    have v3 : IntKind.u64.wrap (data.size : Int) = (data.size : Int) := u64_wrap_lt _ (by omega)
    have v4 : IntKind.u64.wrap (b : Int) = (b : Int) := u64_wrap_lt b (by omega)
    have p1 := fun W => add_fit W (H 0) (wBytes en 4) (by rw [s0, w4_size]; decide)
    have p2 := fun W => add_fit W (H 1) (wBytes text.size 4) (by rw [s1, w4_size]; decide)
    have p3 := fun W => add_fit W (H 2) (wBytes data.size 4) (by rw [s2, w4_size]; decide)
    have p4 := fun W => add_fit W (H 3) (wBytes b 4) (by rw [s3, w4_size]; decide)
    rw [a1] at p1; rw [a2] at p2; rw [a3] at p3; rw [a4] at p4
    have p5 := fun W => add_fit W (H 4) (zerosB 12) (by rw [s4, zerosB_size]; decide)
    have p6 := fun W => add_fit W (H 4 ++ zerosB 12) text (by rw [ByteArray.size_append, s4, zerosB_size]; omega)
    have p7 := fun W => add_fit W (H 4 ++ zerosB 12 ++ text) data (by rw [ByteArray.size_append, ByteArray.size_append, s4, zerosB_size]; omega)
    rw [FIN.out] at p7
    rw [hz0] at p1
    have KB1 := fun W => KB.out W en (by omega)
    have KB2 := fun W => KB.out W text.size (by omega)
    have KB3 := fun W => KB.out W data.size (by omega)
    have KB4 := fun W => KB.out W b (by omega)
    have mk := make12
    have cv := conv12d
    generalize wBytes en 4 = B1 at *
    generalize wBytes text.size 4 = B2 at *
    generalize wBytes data.size 4 = B3 at *
    generalize wBytes b 4 = B4 at *
    generalize zerosB 12 = Z at *
    have KB1 := Lib.hid KB1; have KB2 := Lib.hid KB2; have KB3 := Lib.hid KB3; have KB4 := Lib.hid KB4
    clear m1 m2 m3 m4 m5 m6 m7 m8 m9 m10 hm e h a1 a2 a3 a4 KB FIN hz0 s0 s1 s2 s3 s4
    go_enter Try.func10, Try.ntmps10
    go_wp2_with fail
    refine (KM.out _).mono ?_
    rintro e w1 ⟨rfl, c1⟩
    have EK0 : EncK w w.heap.size #[.int .i64 (en : Int), .string text, .string data, .int .i64 (b : Int)] w1 := ⟨c1.blk HB.out (fun a => a), C0.out.trans c1⟩
    have EK1 := EK0.drew
    have cT := EK0.cells
    clear c1
    go_wp2_with fail
    go_region_held3 (fun w' => w'.cell? ⟨w.heap.size, 0, none⟩ = some (.int .i64 (en : Int)) ∧ w'.cell? ⟨w.heap.size, 1, none⟩ = some (.string text) ∧ w'.cell? ⟨w.heap.size, 2, none⟩ = some (.string data) ∧ w'.cell? ⟨w.heap.size, 3, none⟩ = some (.int .i64 (b : Int))) (first | assumption | exact cT | (simp [*]; done))
      (first
        | (go_at_call 24; (first | with_reducible refine (KB1.out _).mono ?_ | with_reducible refine (KB2.out _).mono ?_ | with_reducible refine (KB3.out _).mono ?_ | with_reducible refine (KB4.out _).mono ?_); rintro e v1 ⟨rfl, c5⟩; have EK := EncK.step (by assumption) c5; have cT := EK.cells; clear c5))
    have C9 := Lib.hid (EncK.c (by assumption))
    go_wp2_with fail
    have hlt : w.heap.size < v1.heap.size := EK.b.lt
    go_region
    all_goals
      go_wp2_with fail
      go_ret2
      exact ⟨rfl, (C9.out.alloc _).drew⟩
end Go.Proofs.Ytijooajhjcfneaa
