/-
  The walk of the statement ProgSpoilt: true, for every input.
-/
import Derived.Test.YtijooajhjcfneaaQPgSpoil
namespace Go.Proofs.Ytijooajhjcfneaa
open Go.RowKit

def zeroP : Value := .agg #[.int .i64 0, .string ⟨#[]⟩, .string ⟨#[]⟩, .int .i64 0]
/-- Decode refuses bytes -/
def DeNo (s : ByteArray) : Prop := ∀ W, Calls Try.prog 11 #[.string s] W fun r w' => r = .returned (.tuple #[.agg #[.int .i64 0, .string ⟨#[]⟩, .string ⟨#[]⟩, .int .i64 0], .int .i64 6]) ∧ Chg (fun _ => False) W w'
theorem DeNo.of {s : ByteArray} (h : ¬ IsF s) (hs : s.size ≤ 100000) : DeNo s := fun W => by
  have k := p_decode W s (by omega)
  rw [decV_no h] at k
  exact k
theorem sp_nums (n : Nat) (h1 : 36 ≤ n) (h2 : n ≤ 5000) : IntKind.i64.wrap ((n : Int) - 1) = ((n - 1 : Nat) : Int) ∧ wrap64 ((n : Int) - 1) = ((n - 1 : Nat) : Int) := ⟨i64_wrap_eq (by omega) (by omega), by unfold wrap64; omega⟩
set_option maxRecDepth 100000 in
set_option maxHeartbeats 1600000 in
theorem spoilt_tttt (w : World) (en bs : Int) (text data s : ByteArray) (a b r d : Int) (hr : a.tmod 32 = r) (hd : b.tmod 256 = d) (pl n n1 : Nat) (hp32 : pl < 32) (hn : s.size = n) (hn1 : n1 = n - 1) (h36 : 36 ≤ n) (h5 : n ≤ 5000) (hneg : decide (r < 0) = true) (hpl : r + 32 = (pl : Int)) (hA : decide ((4 : Int) ≤ (pl : Int)) = true) (hB : decide ((pl : Int) < (20 : Int)) = true) (hD : (d == 0) = true) (k1 : ∀ W, Calls Try.prog 9 #[.agg #[.int .i64 en, .string text, .string data, .int .i64 bs]] W fun r w' => r = .returned (.tuple #[.string s, .int .i64 0]) ∧ Chg (fun _ => False) W w') (k2 : DeNo (s ++ ⟨#[120]⟩)) (k3 : DeNo (s.extract 0 n1)) :
    Calls Try.prog 6 #[.agg #[.int .i64 en, .string text, .string data, .int .i64 bs], .int .i64 a, .int .i64 b] w fun e w' => e = .returned (.bool true) ∧ Below w.heap.size w w' := by
  obtain ⟨u1, u2⟩ := sp_nums n h36 h5
  rw [← hn1] at u1 u2
  have p1 : IntKind.i64.wrap (r + 32) = (pl : Int) := i64_wrap_eq hpl (by omega)
  have p2 : wrap64 (r + 32) = (pl : Int) := by clear u1 u2 p1; unfold wrap64; omega
  have g0 : ¬ n < 32 := by clear u1 u2 p1 p2; omega
  have g1 : (0 : Int) ≤ (n1 : Int) := Int.natCast_nonneg _
  have g2 : (n1 : Int) ≤ (n : Int) := by clear u1 u2 p1 p2; omega
  have g3 : decide ((n : Int) < 32) = false := decide_eq_false (by clear u1 u2 p1 p2; omega)
  have g4 : decide (n < 32) = false := decide_eq_false g0
  have g5 : n1 ≤ n := by clear u1 u2 p1 p2; omega
  have hadd := fun W => add_fit W s ⟨#[120]⟩ (by rw [hn]; show n + 1 ≤ 100000; clear u1 u2 p1 p2; omega)
  have K1 := Lib.hid k1; have K2 := Lib.hid k2; have K3 := Lib.hid k3
  have X0 := Lib.hid (Blk.new w #[.int .i64 en, .string text, .string data, .int .i64 bs] 23)
  have C0 := Lib.hid (show Chg (fun _ => False) w (w.alloc (.cells #[.int .i64 en, .string text, .string data, .int .i64 bs] 23)) from (Chg.refl _ w).alloc _)
  have HN := Lib.hid hn
  clear k1 k2 k3 hp32 h36 h5 hn1 hpl
  go_enter Try.func6, Try.ntmps6
  go_wp2_with fail
  refine (p_shown _).mono ?_
  rintro e w1 ⟨rfl, b1⟩
  have X1 := Lib.hid ((chg_of_below b1).blk X0.out (fun a => a)); have C1 := Lib.hid (C0.out.trans (chg_of_below b1)); clear b1
  generalize w.heap.size = x2 at *
  have y0 := X1.out.cellv 0 _ rfl; have y1 := X1.out.cellv 1 _ rfl; have y2 := X1.out.cellv 2 _ rfl; have y3 := X1.out.cellv 3 _ rfl
  go_wp2_with fail
  refine (K1.out w1).mono ?_
  rintro e w2 ⟨rfl, c⟩
  have C2 := Lib.hid (C1.out.trans c); clear c y0 y1 y2 y3
  go_wp2_with fail
  refine (K2.out w2).mono ?_
  rintro e w3 ⟨rfl, c⟩
  have C3 := Lib.hid ((C2.out.trans c).alloc (.cells #[.int .i64 0, .string ⟨#[]⟩, .string ⟨#[]⟩, .int .i64 0] 23)); clear c
  go_wp2_with fail
  generalize w3.alloc (.cells #[.int .i64 0, .string ⟨#[]⟩, .string ⟨#[]⟩, .int .i64 0] 23) = v3 at *
  refine (K3.out v3).mono ?_
  rintro e w4 ⟨rfl, c⟩
  have C4 := Lib.hid ((C3.out.trans c).alloc (.cells #[.int .i64 0, .string ⟨#[]⟩, .string ⟨#[]⟩, .int .i64 0] 23)); clear c
  go_wp2_with fail
  go_ret
  exact ⟨rfl, C4.out.below (Nat.le_refl _) (fun _ h => h.elim)⟩
set_option maxRecDepth 100000 in
set_option maxHeartbeats 1600000 in
theorem spoilt_tttf (w : World) (en bs : Int) (text data s : ByteArray) (a b r d : Int) (hr : a.tmod 32 = r) (hd : b.tmod 256 = d) (pl n n1 : Nat) (hp32 : pl < 32) (hn : s.size = n) (hn1 : n1 = n - 1) (h36 : 36 ≤ n) (h5 : n ≤ 5000) (hneg : decide (r < 0) = true) (hpl : r + 32 = (pl : Int)) (hA : decide ((4 : Int) ≤ (pl : Int)) = true) (hB : decide ((pl : Int) < (20 : Int)) = true) (hD : (d == 0) = false) (k1 : ∀ W, Calls Try.prog 9 #[.agg #[.int .i64 en, .string text, .string data, .int .i64 bs]] W fun r w' => r = .returned (.tuple #[.string s, .int .i64 0]) ∧ Chg (fun _ => False) W w') (k2 : DeNo (s ++ ⟨#[120]⟩)) (k3 : DeNo (s.extract 0 n1)) :
    Calls Try.prog 6 #[.agg #[.int .i64 en, .string text, .string data, .int .i64 bs], .int .i64 a, .int .i64 b] w fun e w' => e = .returned (.bool true) ∧ Below w.heap.size w w' := by
  obtain ⟨u1, u2⟩ := sp_nums n h36 h5
  rw [← hn1] at u1 u2
  have p1 : IntKind.i64.wrap (r + 32) = (pl : Int) := i64_wrap_eq hpl (by omega)
  have p2 : wrap64 (r + 32) = (pl : Int) := by clear u1 u2 p1; unfold wrap64; omega
  have g0 : ¬ n < 32 := by clear u1 u2 p1 p2; omega
  have g1 : (0 : Int) ≤ (n1 : Int) := Int.natCast_nonneg _
  have g2 : (n1 : Int) ≤ (n : Int) := by clear u1 u2 p1 p2; omega
  have g3 : decide ((n : Int) < 32) = false := decide_eq_false (by clear u1 u2 p1 p2; omega)
  have g4 : decide (n < 32) = false := decide_eq_false g0
  have g5 : n1 ≤ n := by clear u1 u2 p1 p2; omega
  have hadd := fun W => add_fit W s ⟨#[120]⟩ (by rw [hn]; show n + 1 ≤ 100000; clear u1 u2 p1 p2; omega)
  have K1 := Lib.hid k1; have K2 := Lib.hid k2; have K3 := Lib.hid k3
  have X0 := Lib.hid (Blk.new w #[.int .i64 en, .string text, .string data, .int .i64 bs] 23)
  have C0 := Lib.hid (show Chg (fun _ => False) w (w.alloc (.cells #[.int .i64 en, .string text, .string data, .int .i64 bs] 23)) from (Chg.refl _ w).alloc _)
  have HN := Lib.hid hn
  clear k1 k2 k3 hp32 h36 h5 hn1 hpl
  go_enter Try.func6, Try.ntmps6
  go_wp2_with fail
  refine (p_shown _).mono ?_
  rintro e w1 ⟨rfl, b1⟩
  have X1 := Lib.hid ((chg_of_below b1).blk X0.out (fun a => a)); have C1 := Lib.hid (C0.out.trans (chg_of_below b1)); clear b1
  generalize w.heap.size = x2 at *
  have y0 := X1.out.cellv 0 _ rfl; have y1 := X1.out.cellv 1 _ rfl; have y2 := X1.out.cellv 2 _ rfl; have y3 := X1.out.cellv 3 _ rfl
  go_wp2_with fail
  refine (K1.out w1).mono ?_
  rintro e w2 ⟨rfl, c⟩
  have C2 := Lib.hid (C1.out.trans c); clear c y0 y1 y2 y3
  go_wp2_with fail
  refine (K2.out w2).mono ?_
  rintro e w3 ⟨rfl, c⟩
  have C3 := Lib.hid ((C2.out.trans c).alloc (.cells #[.int .i64 0, .string ⟨#[]⟩, .string ⟨#[]⟩, .int .i64 0] 23)); clear c
  go_wp2_with fail
  generalize w3.alloc (.cells #[.int .i64 0, .string ⟨#[]⟩, .string ⟨#[]⟩, .int .i64 0] 23) = v3 at *
  refine (K3.out v3).mono ?_
  rintro e w4 ⟨rfl, c⟩
  have C4 := Lib.hid ((C3.out.trans c).alloc (.cells #[.int .i64 0, .string ⟨#[]⟩, .string ⟨#[]⟩, .int .i64 0] 23)); clear c
  go_wp2_with fail
  go_ret
  exact ⟨rfl, C4.out.below (Nat.le_refl _) (fun _ h => h.elim)⟩
set_option maxRecDepth 100000 in
set_option maxHeartbeats 1600000 in
theorem spoilt_ttft (w : World) (en bs : Int) (text data s : ByteArray) (a b r d : Int) (hr : a.tmod 32 = r) (hd : b.tmod 256 = d) (pl n n1 : Nat) (hp32 : pl < 32) (hn : s.size = n) (hn1 : n1 = n - 1) (h36 : 36 ≤ n) (h5 : n ≤ 5000) (hneg : decide (r < 0) = true) (hpl : r + 32 = (pl : Int)) (hA : decide ((4 : Int) ≤ (pl : Int)) = true) (hB : decide ((pl : Int) < (20 : Int)) = false) (hD : (d == 0) = true) (k1 : ∀ W, Calls Try.prog 9 #[.agg #[.int .i64 en, .string text, .string data, .int .i64 bs]] W fun r w' => r = .returned (.tuple #[.string s, .int .i64 0]) ∧ Chg (fun _ => False) W w') (k2 : DeNo (s ++ ⟨#[120]⟩)) (k3 : DeNo (s.extract 0 n1)) :
    Calls Try.prog 6 #[.agg #[.int .i64 en, .string text, .string data, .int .i64 bs], .int .i64 a, .int .i64 b] w fun e w' => e = .returned (.bool true) ∧ Below w.heap.size w w' := by
  obtain ⟨u1, u2⟩ := sp_nums n h36 h5
  rw [← hn1] at u1 u2
  have p1 : IntKind.i64.wrap (r + 32) = (pl : Int) := i64_wrap_eq hpl (by omega)
  have p2 : wrap64 (r + 32) = (pl : Int) := by clear u1 u2 p1; unfold wrap64; omega
  have g0 : ¬ n < 32 := by clear u1 u2 p1 p2; omega
  have g1 : (0 : Int) ≤ (n1 : Int) := Int.natCast_nonneg _
  have g2 : (n1 : Int) ≤ (n : Int) := by clear u1 u2 p1 p2; omega
  have g3 : decide ((n : Int) < 32) = false := decide_eq_false (by clear u1 u2 p1 p2; omega)
  have g4 : decide (n < 32) = false := decide_eq_false g0
  have g5 : n1 ≤ n := by clear u1 u2 p1 p2; omega
  have hadd := fun W => add_fit W s ⟨#[120]⟩ (by rw [hn]; show n + 1 ≤ 100000; clear u1 u2 p1 p2; omega)
  have K1 := Lib.hid k1; have K2 := Lib.hid k2; have K3 := Lib.hid k3
  have X0 := Lib.hid (Blk.new w #[.int .i64 en, .string text, .string data, .int .i64 bs] 23)
  have C0 := Lib.hid (show Chg (fun _ => False) w (w.alloc (.cells #[.int .i64 en, .string text, .string data, .int .i64 bs] 23)) from (Chg.refl _ w).alloc _)
  have HN := Lib.hid hn
  clear k1 k2 k3 hp32 h36 h5 hn1 hpl
  go_enter Try.func6, Try.ntmps6
  go_wp2_with fail
  refine (p_shown _).mono ?_
  rintro e w1 ⟨rfl, b1⟩
  have X1 := Lib.hid ((chg_of_below b1).blk X0.out (fun a => a)); have C1 := Lib.hid (C0.out.trans (chg_of_below b1)); clear b1
  generalize w.heap.size = x2 at *
  have y0 := X1.out.cellv 0 _ rfl; have y1 := X1.out.cellv 1 _ rfl; have y2 := X1.out.cellv 2 _ rfl; have y3 := X1.out.cellv 3 _ rfl
  go_wp2_with fail
  refine (K1.out w1).mono ?_
  rintro e w2 ⟨rfl, c⟩
  have C2 := Lib.hid (C1.out.trans c); clear c y0 y1 y2 y3
  go_wp2_with fail
  refine (K2.out w2).mono ?_
  rintro e w3 ⟨rfl, c⟩
  have C3 := Lib.hid ((C2.out.trans c).alloc (.cells #[.int .i64 0, .string ⟨#[]⟩, .string ⟨#[]⟩, .int .i64 0] 23)); clear c
  go_wp2_with fail
  generalize w3.alloc (.cells #[.int .i64 0, .string ⟨#[]⟩, .string ⟨#[]⟩, .int .i64 0] 23) = v3 at *
  refine (K3.out v3).mono ?_
  rintro e w4 ⟨rfl, c⟩
  have C4 := Lib.hid ((C3.out.trans c).alloc (.cells #[.int .i64 0, .string ⟨#[]⟩, .string ⟨#[]⟩, .int .i64 0] 23)); clear c
  go_wp2_with fail
  go_ret
  exact ⟨rfl, C4.out.below (Nat.le_refl _) (fun _ h => h.elim)⟩
set_option maxRecDepth 100000 in
set_option maxHeartbeats 1600000 in
theorem spoilt_ttff (w : World) (en bs : Int) (text data s : ByteArray) (a b r d : Int) (hr : a.tmod 32 = r) (hd : b.tmod 256 = d) (pl n n1 : Nat) (hp32 : pl < 32) (hn : s.size = n) (hn1 : n1 = n - 1) (h36 : 36 ≤ n) (h5 : n ≤ 5000) (hneg : decide (r < 0) = true) (hpl : r + 32 = (pl : Int)) (hA : decide ((4 : Int) ≤ (pl : Int)) = true) (hB : decide ((pl : Int) < (20 : Int)) = false) (hD : (d == 0) = false) (k4 : ∃ d8 c c' : Nat, IntKind.u8.wrap d = (d8 : Int) ∧ byt s pl = c ∧ IntKind.u8.wrap ((c : Int) + (d8 : Int)) = (c' : Int) ∧ DeNo (spB s pl c')) (k1 : ∀ W, Calls Try.prog 9 #[.agg #[.int .i64 en, .string text, .string data, .int .i64 bs]] W fun r w' => r = .returned (.tuple #[.string s, .int .i64 0]) ∧ Chg (fun _ => False) W w') (k2 : DeNo (s ++ ⟨#[120]⟩)) (k3 : DeNo (s.extract 0 n1)) :
    Calls Try.prog 6 #[.agg #[.int .i64 en, .string text, .string data, .int .i64 bs], .int .i64 a, .int .i64 b] w fun e w' => e = .returned (.bool true) ∧ Below w.heap.size w w' := by
  obtain ⟨u1, u2⟩ := sp_nums n h36 h5
  rw [← hn1] at u1 u2
  have p1 : IntKind.i64.wrap (r + 32) = (pl : Int) := i64_wrap_eq hpl (by omega)
  have p2 : wrap64 (r + 32) = (pl : Int) := by clear u1 u2 p1; unfold wrap64; omega
  have g0 : ¬ n < 32 := by clear u1 u2 p1 p2; omega
  have g1 : (0 : Int) ≤ (n1 : Int) := Int.natCast_nonneg _
  have g2 : (n1 : Int) ≤ (n : Int) := by clear u1 u2 p1 p2; omega
  have g3 : decide ((n : Int) < 32) = false := decide_eq_false (by clear u1 u2 p1 p2; omega)
  have g4 : decide (n < 32) = false := decide_eq_false g0
  have g5 : n1 ≤ n := by clear u1 u2 p1 p2; omega
  have hadd := fun W => add_fit W s ⟨#[120]⟩ (by rw [hn]; show n + 1 ≤ 100000; clear u1 u2 p1 p2; omega)
  have K1 := Lib.hid k1; have K2 := Lib.hid k2; have K3 := Lib.hid k3
  have X0 := Lib.hid (Blk.new w #[.int .i64 en, .string text, .string data, .int .i64 bs] 23)
  have C0 := Lib.hid (show Chg (fun _ => False) w (w.alloc (.cells #[.int .i64 en, .string text, .string data, .int .i64 bs] 23)) from (Chg.refl _ w).alloc _)
  obtain ⟨d8, c, c', e1, e2, e3, k4⟩ := k4
  have K4 := Lib.hid k4
  have q3 : pl < n := by clear u1 u2 p1 p2; omega
  have q2 : (pl : Int) < (n : Int) := by clear u1 u2 p1 p2; omega
  have q1 : (0 : Int) ≤ (pl : Int) := Int.natCast_nonneg _
  have E2 := Lib.hid e2
  clear k4 e2
  have HN := Lib.hid hn
  clear k1 k2 k3 hp32 h36 h5 hn1 hpl
  go_enter Try.func6, Try.ntmps6
  go_wp2_with fail
  refine (p_shown _).mono ?_
  rintro e w1 ⟨rfl, b1⟩
  have X1 := Lib.hid ((chg_of_below b1).blk X0.out (fun a => a)); have C1 := Lib.hid (C0.out.trans (chg_of_below b1)); clear b1
  generalize w.heap.size = x2 at *
  have y0 := X1.out.cellv 0 _ rfl; have y1 := X1.out.cellv 1 _ rfl; have y2 := X1.out.cellv 2 _ rfl; have y3 := X1.out.cellv 3 _ rfl
  go_wp2_with fail
  refine (K1.out w1).mono ?_
  rintro e w2 ⟨rfl, c⟩
  have C2 := Lib.hid (C1.out.trans c); clear c y0 y1 y2 y3
  go_wp2_with fail
  refine (K2.out w2).mono ?_
  rintro e w3 ⟨rfl, c⟩
  have C3 := Lib.hid ((C2.out.trans c).alloc (.cells #[.int .i64 0, .string ⟨#[]⟩, .string ⟨#[]⟩, .int .i64 0] 23)); clear c
  go_wp2_with fail
  generalize w3.alloc (.cells #[.int .i64 0, .string ⟨#[]⟩, .string ⟨#[]⟩, .int .i64 0] 23) = v3 at *
  refine (K3.out v3).mono ?_
  rintro e w4 ⟨rfl, c⟩
  have C4 := Lib.hid ((C3.out.trans c).alloc (.cells #[.int .i64 0, .string ⟨#[]⟩, .string ⟨#[]⟩, .int .i64 0] 23)); clear c
  obtain ⟨W5, g, cap, hconv, hspk⟩ : ∃ W5 g cap, (convert 9 55 (.string s)).run Try.prog (w4.alloc (.cells #[.int .i64 0, .string ⟨#[]⟩, .string ⟨#[]⟩, .int .i64 0] 23)) = .ok (.slice (some ⟨g, 0, none⟩) n cap) W5 ∧ SpK (w4.alloc (.cells #[.int .i64 0, .string ⟨#[]⟩, .string ⟨#[]⟩, .int .i64 0] 23)) s g W5 := ⟨_, _, _, HN.out ▸ conv_sb _ s, SpK.made _ s⟩
  have z1 := hspk.cell pl (by rw [HN.out]; exact q3)
  have z2 := hspk.free pl (by rw [HN.out]; exact q3)
  rw [E2.out] at z1
  have hback := conv_bs (cap := cap) (c := c') hspk (show pl < s.size by rw [HN.out]; exact q3)
  rw [HN.out] at hback
  have C5 := Lib.hid (C4.out.trans (hspk.set (pl := pl) (v := .int .u8 (c' : Nat))))
  clear hspk
  go_wp2_with fail
  refine (K4.out _).mono ?_
  rintro e w6 ⟨rfl, c⟩
  have C6 := Lib.hid ((C5.out.trans c).alloc (.cells #[.int .i64 0, .string ⟨#[]⟩, .string ⟨#[]⟩, .int .i64 0] 23)); clear c
  go_wp2_with fail
  go_ret
  exact ⟨rfl, C6.out.below (Nat.le_refl _) (fun _ h => h.elim)⟩
set_option maxRecDepth 100000 in
set_option maxHeartbeats 1600000 in
theorem spoilt_tftt (w : World) (en bs : Int) (text data s : ByteArray) (a b r d : Int) (hr : a.tmod 32 = r) (hd : b.tmod 256 = d) (pl n n1 : Nat) (hp32 : pl < 32) (hn : s.size = n) (hn1 : n1 = n - 1) (h36 : 36 ≤ n) (h5 : n ≤ 5000) (hneg : decide (r < 0) = true) (hpl : r + 32 = (pl : Int)) (hA : decide ((4 : Int) ≤ (pl : Int)) = false) (hB : decide ((pl : Int) < (20 : Int)) = true) (hD : (d == 0) = true) (k1 : ∀ W, Calls Try.prog 9 #[.agg #[.int .i64 en, .string text, .string data, .int .i64 bs]] W fun r w' => r = .returned (.tuple #[.string s, .int .i64 0]) ∧ Chg (fun _ => False) W w') (k2 : DeNo (s ++ ⟨#[120]⟩)) (k3 : DeNo (s.extract 0 n1)) :
    Calls Try.prog 6 #[.agg #[.int .i64 en, .string text, .string data, .int .i64 bs], .int .i64 a, .int .i64 b] w fun e w' => e = .returned (.bool true) ∧ Below w.heap.size w w' := by
  obtain ⟨u1, u2⟩ := sp_nums n h36 h5
  rw [← hn1] at u1 u2
  have p1 : IntKind.i64.wrap (r + 32) = (pl : Int) := i64_wrap_eq hpl (by omega)
  have p2 : wrap64 (r + 32) = (pl : Int) := by clear u1 u2 p1; unfold wrap64; omega
  have g0 : ¬ n < 32 := by clear u1 u2 p1 p2; omega
  have g1 : (0 : Int) ≤ (n1 : Int) := Int.natCast_nonneg _
  have g2 : (n1 : Int) ≤ (n : Int) := by clear u1 u2 p1 p2; omega
  have g3 : decide ((n : Int) < 32) = false := decide_eq_false (by clear u1 u2 p1 p2; omega)
  have g4 : decide (n < 32) = false := decide_eq_false g0
  have g5 : n1 ≤ n := by clear u1 u2 p1 p2; omega
  have hadd := fun W => add_fit W s ⟨#[120]⟩ (by rw [hn]; show n + 1 ≤ 100000; clear u1 u2 p1 p2; omega)
  have K1 := Lib.hid k1; have K2 := Lib.hid k2; have K3 := Lib.hid k3
  have X0 := Lib.hid (Blk.new w #[.int .i64 en, .string text, .string data, .int .i64 bs] 23)
  have C0 := Lib.hid (show Chg (fun _ => False) w (w.alloc (.cells #[.int .i64 en, .string text, .string data, .int .i64 bs] 23)) from (Chg.refl _ w).alloc _)
  have HN := Lib.hid hn
  clear k1 k2 k3 hp32 h36 h5 hn1 hpl
  go_enter Try.func6, Try.ntmps6
  go_wp2_with fail
  refine (p_shown _).mono ?_
  rintro e w1 ⟨rfl, b1⟩
  have X1 := Lib.hid ((chg_of_below b1).blk X0.out (fun a => a)); have C1 := Lib.hid (C0.out.trans (chg_of_below b1)); clear b1
  generalize w.heap.size = x2 at *
  have y0 := X1.out.cellv 0 _ rfl; have y1 := X1.out.cellv 1 _ rfl; have y2 := X1.out.cellv 2 _ rfl; have y3 := X1.out.cellv 3 _ rfl
  go_wp2_with fail
  refine (K1.out w1).mono ?_
  rintro e w2 ⟨rfl, c⟩
  have C2 := Lib.hid (C1.out.trans c); clear c y0 y1 y2 y3
  go_wp2_with fail
  refine (K2.out w2).mono ?_
  rintro e w3 ⟨rfl, c⟩
  have C3 := Lib.hid ((C2.out.trans c).alloc (.cells #[.int .i64 0, .string ⟨#[]⟩, .string ⟨#[]⟩, .int .i64 0] 23)); clear c
  go_wp2_with fail
  generalize w3.alloc (.cells #[.int .i64 0, .string ⟨#[]⟩, .string ⟨#[]⟩, .int .i64 0] 23) = v3 at *
  refine (K3.out v3).mono ?_
  rintro e w4 ⟨rfl, c⟩
  have C4 := Lib.hid ((C3.out.trans c).alloc (.cells #[.int .i64 0, .string ⟨#[]⟩, .string ⟨#[]⟩, .int .i64 0] 23)); clear c
  go_wp2_with fail
  go_ret
  exact ⟨rfl, C4.out.below (Nat.le_refl _) (fun _ h => h.elim)⟩
set_option maxRecDepth 100000 in
set_option maxHeartbeats 1600000 in
theorem spoilt_tftf (w : World) (en bs : Int) (text data s : ByteArray) (a b r d : Int) (hr : a.tmod 32 = r) (hd : b.tmod 256 = d) (pl n n1 : Nat) (hp32 : pl < 32) (hn : s.size = n) (hn1 : n1 = n - 1) (h36 : 36 ≤ n) (h5 : n ≤ 5000) (hneg : decide (r < 0) = true) (hpl : r + 32 = (pl : Int)) (hA : decide ((4 : Int) ≤ (pl : Int)) = false) (hB : decide ((pl : Int) < (20 : Int)) = true) (hD : (d == 0) = false) (k4 : ∃ d8 c c' : Nat, IntKind.u8.wrap d = (d8 : Int) ∧ byt s pl = c ∧ IntKind.u8.wrap ((c : Int) + (d8 : Int)) = (c' : Int) ∧ DeNo (spB s pl c')) (k1 : ∀ W, Calls Try.prog 9 #[.agg #[.int .i64 en, .string text, .string data, .int .i64 bs]] W fun r w' => r = .returned (.tuple #[.string s, .int .i64 0]) ∧ Chg (fun _ => False) W w') (k2 : DeNo (s ++ ⟨#[120]⟩)) (k3 : DeNo (s.extract 0 n1)) :
    Calls Try.prog 6 #[.agg #[.int .i64 en, .string text, .string data, .int .i64 bs], .int .i64 a, .int .i64 b] w fun e w' => e = .returned (.bool true) ∧ Below w.heap.size w w' := by
  obtain ⟨u1, u2⟩ := sp_nums n h36 h5
  rw [← hn1] at u1 u2
  have p1 : IntKind.i64.wrap (r + 32) = (pl : Int) := i64_wrap_eq hpl (by omega)
  have p2 : wrap64 (r + 32) = (pl : Int) := by clear u1 u2 p1; unfold wrap64; omega
  have g0 : ¬ n < 32 := by clear u1 u2 p1 p2; omega
  have g1 : (0 : Int) ≤ (n1 : Int) := Int.natCast_nonneg _
  have g2 : (n1 : Int) ≤ (n : Int) := by clear u1 u2 p1 p2; omega
  have g3 : decide ((n : Int) < 32) = false := decide_eq_false (by clear u1 u2 p1 p2; omega)
  have g4 : decide (n < 32) = false := decide_eq_false g0
  have g5 : n1 ≤ n := by clear u1 u2 p1 p2; omega
  have hadd := fun W => add_fit W s ⟨#[120]⟩ (by rw [hn]; show n + 1 ≤ 100000; clear u1 u2 p1 p2; omega)
  have K1 := Lib.hid k1; have K2 := Lib.hid k2; have K3 := Lib.hid k3
  have X0 := Lib.hid (Blk.new w #[.int .i64 en, .string text, .string data, .int .i64 bs] 23)
  have C0 := Lib.hid (show Chg (fun _ => False) w (w.alloc (.cells #[.int .i64 en, .string text, .string data, .int .i64 bs] 23)) from (Chg.refl _ w).alloc _)
  obtain ⟨d8, c, c', e1, e2, e3, k4⟩ := k4
  have K4 := Lib.hid k4
  have q3 : pl < n := by clear u1 u2 p1 p2; omega
  have q2 : (pl : Int) < (n : Int) := by clear u1 u2 p1 p2; omega
  have q1 : (0 : Int) ≤ (pl : Int) := Int.natCast_nonneg _
  have E2 := Lib.hid e2
  clear k4 e2
  have HN := Lib.hid hn
  clear k1 k2 k3 hp32 h36 h5 hn1 hpl
  go_enter Try.func6, Try.ntmps6
  go_wp2_with fail
  refine (p_shown _).mono ?_
  rintro e w1 ⟨rfl, b1⟩
  have X1 := Lib.hid ((chg_of_below b1).blk X0.out (fun a => a)); have C1 := Lib.hid (C0.out.trans (chg_of_below b1)); clear b1
  generalize w.heap.size = x2 at *
  have y0 := X1.out.cellv 0 _ rfl; have y1 := X1.out.cellv 1 _ rfl; have y2 := X1.out.cellv 2 _ rfl; have y3 := X1.out.cellv 3 _ rfl
  go_wp2_with fail
  refine (K1.out w1).mono ?_
  rintro e w2 ⟨rfl, c⟩
  have C2 := Lib.hid (C1.out.trans c); clear c y0 y1 y2 y3
  go_wp2_with fail
  refine (K2.out w2).mono ?_
  rintro e w3 ⟨rfl, c⟩
  have C3 := Lib.hid ((C2.out.trans c).alloc (.cells #[.int .i64 0, .string ⟨#[]⟩, .string ⟨#[]⟩, .int .i64 0] 23)); clear c
  go_wp2_with fail
  generalize w3.alloc (.cells #[.int .i64 0, .string ⟨#[]⟩, .string ⟨#[]⟩, .int .i64 0] 23) = v3 at *
  refine (K3.out v3).mono ?_
  rintro e w4 ⟨rfl, c⟩
  have C4 := Lib.hid ((C3.out.trans c).alloc (.cells #[.int .i64 0, .string ⟨#[]⟩, .string ⟨#[]⟩, .int .i64 0] 23)); clear c
  obtain ⟨W5, g, cap, hconv, hspk⟩ : ∃ W5 g cap, (convert 9 55 (.string s)).run Try.prog (w4.alloc (.cells #[.int .i64 0, .string ⟨#[]⟩, .string ⟨#[]⟩, .int .i64 0] 23)) = .ok (.slice (some ⟨g, 0, none⟩) n cap) W5 ∧ SpK (w4.alloc (.cells #[.int .i64 0, .string ⟨#[]⟩, .string ⟨#[]⟩, .int .i64 0] 23)) s g W5 := ⟨_, _, _, HN.out ▸ conv_sb _ s, SpK.made _ s⟩
  have z1 := hspk.cell pl (by rw [HN.out]; exact q3)
  have z2 := hspk.free pl (by rw [HN.out]; exact q3)
  rw [E2.out] at z1
  have hback := conv_bs (cap := cap) (c := c') hspk (show pl < s.size by rw [HN.out]; exact q3)
  rw [HN.out] at hback
  have C5 := Lib.hid (C4.out.trans (hspk.set (pl := pl) (v := .int .u8 (c' : Nat))))
  clear hspk
  go_wp2_with fail
  refine (K4.out _).mono ?_
  rintro e w6 ⟨rfl, c⟩
  have C6 := Lib.hid ((C5.out.trans c).alloc (.cells #[.int .i64 0, .string ⟨#[]⟩, .string ⟨#[]⟩, .int .i64 0] 23)); clear c
  go_wp2_with fail
  go_ret
  exact ⟨rfl, C6.out.below (Nat.le_refl _) (fun _ h => h.elim)⟩
set_option maxRecDepth 100000 in
set_option maxHeartbeats 1600000 in
theorem spoilt_fttt (w : World) (en bs : Int) (text data s : ByteArray) (a b r d : Int) (hr : a.tmod 32 = r) (hd : b.tmod 256 = d) (pl n n1 : Nat) (hp32 : pl < 32) (hn : s.size = n) (hn1 : n1 = n - 1) (h36 : 36 ≤ n) (h5 : n ≤ 5000) (hneg : decide (r < 0) = false) (hpl : r = (pl : Int)) (hA : decide ((4 : Int) ≤ (pl : Int)) = true) (hB : decide ((pl : Int) < (20 : Int)) = true) (hD : (d == 0) = true) (k1 : ∀ W, Calls Try.prog 9 #[.agg #[.int .i64 en, .string text, .string data, .int .i64 bs]] W fun r w' => r = .returned (.tuple #[.string s, .int .i64 0]) ∧ Chg (fun _ => False) W w') (k2 : DeNo (s ++ ⟨#[120]⟩)) (k3 : DeNo (s.extract 0 n1)) :
    Calls Try.prog 6 #[.agg #[.int .i64 en, .string text, .string data, .int .i64 bs], .int .i64 a, .int .i64 b] w fun e w' => e = .returned (.bool true) ∧ Below w.heap.size w w' := by
  obtain ⟨u1, u2⟩ := sp_nums n h36 h5
  rw [← hn1] at u1 u2
  subst hpl
  have g0 : ¬ n < 32 := by clear u1 u2; omega
  have g1 : (0 : Int) ≤ (n1 : Int) := Int.natCast_nonneg _
  have g2 : (n1 : Int) ≤ (n : Int) := by clear u1 u2; omega
  have g3 : decide ((n : Int) < 32) = false := decide_eq_false (by clear u1 u2; omega)
  have g4 : decide (n < 32) = false := decide_eq_false g0
  have g5 : n1 ≤ n := by clear u1 u2; omega
  have hadd := fun W => add_fit W s ⟨#[120]⟩ (by rw [hn]; show n + 1 ≤ 100000; clear u1 u2; omega)
  have K1 := Lib.hid k1; have K2 := Lib.hid k2; have K3 := Lib.hid k3
  have X0 := Lib.hid (Blk.new w #[.int .i64 en, .string text, .string data, .int .i64 bs] 23)
  have C0 := Lib.hid (show Chg (fun _ => False) w (w.alloc (.cells #[.int .i64 en, .string text, .string data, .int .i64 bs] 23)) from (Chg.refl _ w).alloc _)
  have HN := Lib.hid hn
  clear k1 k2 k3 hp32 h36 h5 hn1
  go_enter Try.func6, Try.ntmps6
  go_wp2_with fail
  refine (p_shown _).mono ?_
  rintro e w1 ⟨rfl, b1⟩
  have X1 := Lib.hid ((chg_of_below b1).blk X0.out (fun a => a)); have C1 := Lib.hid (C0.out.trans (chg_of_below b1)); clear b1
  generalize w.heap.size = x2 at *
  have y0 := X1.out.cellv 0 _ rfl; have y1 := X1.out.cellv 1 _ rfl; have y2 := X1.out.cellv 2 _ rfl; have y3 := X1.out.cellv 3 _ rfl
  go_wp2_with fail
  refine (K1.out w1).mono ?_
  rintro e w2 ⟨rfl, c⟩
  have C2 := Lib.hid (C1.out.trans c); clear c y0 y1 y2 y3
  go_wp2_with fail
  refine (K2.out w2).mono ?_
  rintro e w3 ⟨rfl, c⟩
  have C3 := Lib.hid ((C2.out.trans c).alloc (.cells #[.int .i64 0, .string ⟨#[]⟩, .string ⟨#[]⟩, .int .i64 0] 23)); clear c
  go_wp2_with fail
  generalize w3.alloc (.cells #[.int .i64 0, .string ⟨#[]⟩, .string ⟨#[]⟩, .int .i64 0] 23) = v3 at *
  refine (K3.out v3).mono ?_
  rintro e w4 ⟨rfl, c⟩
  have C4 := Lib.hid ((C3.out.trans c).alloc (.cells #[.int .i64 0, .string ⟨#[]⟩, .string ⟨#[]⟩, .int .i64 0] 23)); clear c
  go_wp2_with fail
  go_ret
  exact ⟨rfl, C4.out.below (Nat.le_refl _) (fun _ h => h.elim)⟩
set_option maxRecDepth 100000 in
set_option maxHeartbeats 1600000 in
theorem spoilt_fttf (w : World) (en bs : Int) (text data s : ByteArray) (a b r d : Int) (hr : a.tmod 32 = r) (hd : b.tmod 256 = d) (pl n n1 : Nat) (hp32 : pl < 32) (hn : s.size = n) (hn1 : n1 = n - 1) (h36 : 36 ≤ n) (h5 : n ≤ 5000) (hneg : decide (r < 0) = false) (hpl : r = (pl : Int)) (hA : decide ((4 : Int) ≤ (pl : Int)) = true) (hB : decide ((pl : Int) < (20 : Int)) = true) (hD : (d == 0) = false) (k1 : ∀ W, Calls Try.prog 9 #[.agg #[.int .i64 en, .string text, .string data, .int .i64 bs]] W fun r w' => r = .returned (.tuple #[.string s, .int .i64 0]) ∧ Chg (fun _ => False) W w') (k2 : DeNo (s ++ ⟨#[120]⟩)) (k3 : DeNo (s.extract 0 n1)) :
    Calls Try.prog 6 #[.agg #[.int .i64 en, .string text, .string data, .int .i64 bs], .int .i64 a, .int .i64 b] w fun e w' => e = .returned (.bool true) ∧ Below w.heap.size w w' := by
  obtain ⟨u1, u2⟩ := sp_nums n h36 h5
  rw [← hn1] at u1 u2
  subst hpl
  have g0 : ¬ n < 32 := by clear u1 u2; omega
  have g1 : (0 : Int) ≤ (n1 : Int) := Int.natCast_nonneg _
  have g2 : (n1 : Int) ≤ (n : Int) := by clear u1 u2; omega
  have g3 : decide ((n : Int) < 32) = false := decide_eq_false (by clear u1 u2; omega)
  have g4 : decide (n < 32) = false := decide_eq_false g0
  have g5 : n1 ≤ n := by clear u1 u2; omega
  have hadd := fun W => add_fit W s ⟨#[120]⟩ (by rw [hn]; show n + 1 ≤ 100000; clear u1 u2; omega)
  have K1 := Lib.hid k1; have K2 := Lib.hid k2; have K3 := Lib.hid k3
  have X0 := Lib.hid (Blk.new w #[.int .i64 en, .string text, .string data, .int .i64 bs] 23)
  have C0 := Lib.hid (show Chg (fun _ => False) w (w.alloc (.cells #[.int .i64 en, .string text, .string data, .int .i64 bs] 23)) from (Chg.refl _ w).alloc _)
  have HN := Lib.hid hn
  clear k1 k2 k3 hp32 h36 h5 hn1
  go_enter Try.func6, Try.ntmps6
  go_wp2_with fail
  refine (p_shown _).mono ?_
  rintro e w1 ⟨rfl, b1⟩
  have X1 := Lib.hid ((chg_of_below b1).blk X0.out (fun a => a)); have C1 := Lib.hid (C0.out.trans (chg_of_below b1)); clear b1
  generalize w.heap.size = x2 at *
  have y0 := X1.out.cellv 0 _ rfl; have y1 := X1.out.cellv 1 _ rfl; have y2 := X1.out.cellv 2 _ rfl; have y3 := X1.out.cellv 3 _ rfl
  go_wp2_with fail
  refine (K1.out w1).mono ?_
  rintro e w2 ⟨rfl, c⟩
  have C2 := Lib.hid (C1.out.trans c); clear c y0 y1 y2 y3
  go_wp2_with fail
  refine (K2.out w2).mono ?_
  rintro e w3 ⟨rfl, c⟩
  have C3 := Lib.hid ((C2.out.trans c).alloc (.cells #[.int .i64 0, .string ⟨#[]⟩, .string ⟨#[]⟩, .int .i64 0] 23)); clear c
  go_wp2_with fail
  generalize w3.alloc (.cells #[.int .i64 0, .string ⟨#[]⟩, .string ⟨#[]⟩, .int .i64 0] 23) = v3 at *
  refine (K3.out v3).mono ?_
  rintro e w4 ⟨rfl, c⟩
  have C4 := Lib.hid ((C3.out.trans c).alloc (.cells #[.int .i64 0, .string ⟨#[]⟩, .string ⟨#[]⟩, .int .i64 0] 23)); clear c
  go_wp2_with fail
  go_ret
  exact ⟨rfl, C4.out.below (Nat.le_refl _) (fun _ h => h.elim)⟩
set_option maxRecDepth 100000 in
set_option maxHeartbeats 1600000 in
theorem spoilt_ftft (w : World) (en bs : Int) (text data s : ByteArray) (a b r d : Int) (hr : a.tmod 32 = r) (hd : b.tmod 256 = d) (pl n n1 : Nat) (hp32 : pl < 32) (hn : s.size = n) (hn1 : n1 = n - 1) (h36 : 36 ≤ n) (h5 : n ≤ 5000) (hneg : decide (r < 0) = false) (hpl : r = (pl : Int)) (hA : decide ((4 : Int) ≤ (pl : Int)) = true) (hB : decide ((pl : Int) < (20 : Int)) = false) (hD : (d == 0) = true) (k1 : ∀ W, Calls Try.prog 9 #[.agg #[.int .i64 en, .string text, .string data, .int .i64 bs]] W fun r w' => r = .returned (.tuple #[.string s, .int .i64 0]) ∧ Chg (fun _ => False) W w') (k2 : DeNo (s ++ ⟨#[120]⟩)) (k3 : DeNo (s.extract 0 n1)) :
    Calls Try.prog 6 #[.agg #[.int .i64 en, .string text, .string data, .int .i64 bs], .int .i64 a, .int .i64 b] w fun e w' => e = .returned (.bool true) ∧ Below w.heap.size w w' := by
  obtain ⟨u1, u2⟩ := sp_nums n h36 h5
  rw [← hn1] at u1 u2
  subst hpl
  have g0 : ¬ n < 32 := by clear u1 u2; omega
  have g1 : (0 : Int) ≤ (n1 : Int) := Int.natCast_nonneg _
  have g2 : (n1 : Int) ≤ (n : Int) := by clear u1 u2; omega
  have g3 : decide ((n : Int) < 32) = false := decide_eq_false (by clear u1 u2; omega)
  have g4 : decide (n < 32) = false := decide_eq_false g0
  have g5 : n1 ≤ n := by clear u1 u2; omega
  have hadd := fun W => add_fit W s ⟨#[120]⟩ (by rw [hn]; show n + 1 ≤ 100000; clear u1 u2; omega)
  have K1 := Lib.hid k1; have K2 := Lib.hid k2; have K3 := Lib.hid k3
  have X0 := Lib.hid (Blk.new w #[.int .i64 en, .string text, .string data, .int .i64 bs] 23)
  have C0 := Lib.hid (show Chg (fun _ => False) w (w.alloc (.cells #[.int .i64 en, .string text, .string data, .int .i64 bs] 23)) from (Chg.refl _ w).alloc _)
  have HN := Lib.hid hn
  clear k1 k2 k3 hp32 h36 h5 hn1
  go_enter Try.func6, Try.ntmps6
  go_wp2_with fail
  refine (p_shown _).mono ?_
  rintro e w1 ⟨rfl, b1⟩
  have X1 := Lib.hid ((chg_of_below b1).blk X0.out (fun a => a)); have C1 := Lib.hid (C0.out.trans (chg_of_below b1)); clear b1
  generalize w.heap.size = x2 at *
  have y0 := X1.out.cellv 0 _ rfl; have y1 := X1.out.cellv 1 _ rfl; have y2 := X1.out.cellv 2 _ rfl; have y3 := X1.out.cellv 3 _ rfl
  go_wp2_with fail
  refine (K1.out w1).mono ?_
  rintro e w2 ⟨rfl, c⟩
  have C2 := Lib.hid (C1.out.trans c); clear c y0 y1 y2 y3
  go_wp2_with fail
  refine (K2.out w2).mono ?_
  rintro e w3 ⟨rfl, c⟩
  have C3 := Lib.hid ((C2.out.trans c).alloc (.cells #[.int .i64 0, .string ⟨#[]⟩, .string ⟨#[]⟩, .int .i64 0] 23)); clear c
  go_wp2_with fail
  generalize w3.alloc (.cells #[.int .i64 0, .string ⟨#[]⟩, .string ⟨#[]⟩, .int .i64 0] 23) = v3 at *
  refine (K3.out v3).mono ?_
  rintro e w4 ⟨rfl, c⟩
  have C4 := Lib.hid ((C3.out.trans c).alloc (.cells #[.int .i64 0, .string ⟨#[]⟩, .string ⟨#[]⟩, .int .i64 0] 23)); clear c
  go_wp2_with fail
  go_ret
  exact ⟨rfl, C4.out.below (Nat.le_refl _) (fun _ h => h.elim)⟩
set_option maxRecDepth 100000 in
set_option maxHeartbeats 1600000 in
theorem spoilt_ftff (w : World) (en bs : Int) (text data s : ByteArray) (a b r d : Int) (hr : a.tmod 32 = r) (hd : b.tmod 256 = d) (pl n n1 : Nat) (hp32 : pl < 32) (hn : s.size = n) (hn1 : n1 = n - 1) (h36 : 36 ≤ n) (h5 : n ≤ 5000) (hneg : decide (r < 0) = false) (hpl : r = (pl : Int)) (hA : decide ((4 : Int) ≤ (pl : Int)) = true) (hB : decide ((pl : Int) < (20 : Int)) = false) (hD : (d == 0) = false) (k4 : ∃ d8 c c' : Nat, IntKind.u8.wrap d = (d8 : Int) ∧ byt s pl = c ∧ IntKind.u8.wrap ((c : Int) + (d8 : Int)) = (c' : Int) ∧ DeNo (spB s pl c')) (k1 : ∀ W, Calls Try.prog 9 #[.agg #[.int .i64 en, .string text, .string data, .int .i64 bs]] W fun r w' => r = .returned (.tuple #[.string s, .int .i64 0]) ∧ Chg (fun _ => False) W w') (k2 : DeNo (s ++ ⟨#[120]⟩)) (k3 : DeNo (s.extract 0 n1)) :
    Calls Try.prog 6 #[.agg #[.int .i64 en, .string text, .string data, .int .i64 bs], .int .i64 a, .int .i64 b] w fun e w' => e = .returned (.bool true) ∧ Below w.heap.size w w' := by
  obtain ⟨u1, u2⟩ := sp_nums n h36 h5
  rw [← hn1] at u1 u2
  subst hpl
  have g0 : ¬ n < 32 := by clear u1 u2; omega
  have g1 : (0 : Int) ≤ (n1 : Int) := Int.natCast_nonneg _
  have g2 : (n1 : Int) ≤ (n : Int) := by clear u1 u2; omega
  have g3 : decide ((n : Int) < 32) = false := decide_eq_false (by clear u1 u2; omega)
  have g4 : decide (n < 32) = false := decide_eq_false g0
  have g5 : n1 ≤ n := by clear u1 u2; omega
  have hadd := fun W => add_fit W s ⟨#[120]⟩ (by rw [hn]; show n + 1 ≤ 100000; clear u1 u2; omega)
  have K1 := Lib.hid k1; have K2 := Lib.hid k2; have K3 := Lib.hid k3
  have X0 := Lib.hid (Blk.new w #[.int .i64 en, .string text, .string data, .int .i64 bs] 23)
  have C0 := Lib.hid (show Chg (fun _ => False) w (w.alloc (.cells #[.int .i64 en, .string text, .string data, .int .i64 bs] 23)) from (Chg.refl _ w).alloc _)
  obtain ⟨d8, c, c', e1, e2, e3, k4⟩ := k4
  have K4 := Lib.hid k4
  have q3 : pl < n := by clear u1 u2; omega
  have q2 : (pl : Int) < (n : Int) := by clear u1 u2; omega
  have q1 : (0 : Int) ≤ (pl : Int) := Int.natCast_nonneg _
  have E2 := Lib.hid e2
  clear k4 e2
  have HN := Lib.hid hn
  clear k1 k2 k3 hp32 h36 h5 hn1
  go_enter Try.func6, Try.ntmps6
  go_wp2_with fail
  refine (p_shown _).mono ?_
  rintro e w1 ⟨rfl, b1⟩
  have X1 := Lib.hid ((chg_of_below b1).blk X0.out (fun a => a)); have C1 := Lib.hid (C0.out.trans (chg_of_below b1)); clear b1
  generalize w.heap.size = x2 at *
  have y0 := X1.out.cellv 0 _ rfl; have y1 := X1.out.cellv 1 _ rfl; have y2 := X1.out.cellv 2 _ rfl; have y3 := X1.out.cellv 3 _ rfl
  go_wp2_with fail
  refine (K1.out w1).mono ?_
  rintro e w2 ⟨rfl, c⟩
  have C2 := Lib.hid (C1.out.trans c); clear c y0 y1 y2 y3
  go_wp2_with fail
  refine (K2.out w2).mono ?_
  rintro e w3 ⟨rfl, c⟩
  have C3 := Lib.hid ((C2.out.trans c).alloc (.cells #[.int .i64 0, .string ⟨#[]⟩, .string ⟨#[]⟩, .int .i64 0] 23)); clear c
  go_wp2_with fail
  generalize w3.alloc (.cells #[.int .i64 0, .string ⟨#[]⟩, .string ⟨#[]⟩, .int .i64 0] 23) = v3 at *
  refine (K3.out v3).mono ?_
  rintro e w4 ⟨rfl, c⟩
  have C4 := Lib.hid ((C3.out.trans c).alloc (.cells #[.int .i64 0, .string ⟨#[]⟩, .string ⟨#[]⟩, .int .i64 0] 23)); clear c
  obtain ⟨W5, g, cap, hconv, hspk⟩ : ∃ W5 g cap, (convert 9 55 (.string s)).run Try.prog (w4.alloc (.cells #[.int .i64 0, .string ⟨#[]⟩, .string ⟨#[]⟩, .int .i64 0] 23)) = .ok (.slice (some ⟨g, 0, none⟩) n cap) W5 ∧ SpK (w4.alloc (.cells #[.int .i64 0, .string ⟨#[]⟩, .string ⟨#[]⟩, .int .i64 0] 23)) s g W5 := ⟨_, _, _, HN.out ▸ conv_sb _ s, SpK.made _ s⟩
  have z1 := hspk.cell pl (by rw [HN.out]; exact q3)
  have z2 := hspk.free pl (by rw [HN.out]; exact q3)
  rw [E2.out] at z1
  have hback := conv_bs (cap := cap) (c := c') hspk (show pl < s.size by rw [HN.out]; exact q3)
  rw [HN.out] at hback
  have C5 := Lib.hid (C4.out.trans (hspk.set (pl := pl) (v := .int .u8 (c' : Nat))))
  clear hspk
  go_wp2_with fail
  refine (K4.out _).mono ?_
  rintro e w6 ⟨rfl, c⟩
  have C6 := Lib.hid ((C5.out.trans c).alloc (.cells #[.int .i64 0, .string ⟨#[]⟩, .string ⟨#[]⟩, .int .i64 0] 23)); clear c
  go_wp2_with fail
  go_ret
  exact ⟨rfl, C6.out.below (Nat.le_refl _) (fun _ h => h.elim)⟩
set_option maxRecDepth 100000 in
set_option maxHeartbeats 1600000 in
theorem spoilt_fftt (w : World) (en bs : Int) (text data s : ByteArray) (a b r d : Int) (hr : a.tmod 32 = r) (hd : b.tmod 256 = d) (pl n n1 : Nat) (hp32 : pl < 32) (hn : s.size = n) (hn1 : n1 = n - 1) (h36 : 36 ≤ n) (h5 : n ≤ 5000) (hneg : decide (r < 0) = false) (hpl : r = (pl : Int)) (hA : decide ((4 : Int) ≤ (pl : Int)) = false) (hB : decide ((pl : Int) < (20 : Int)) = true) (hD : (d == 0) = true) (k1 : ∀ W, Calls Try.prog 9 #[.agg #[.int .i64 en, .string text, .string data, .int .i64 bs]] W fun r w' => r = .returned (.tuple #[.string s, .int .i64 0]) ∧ Chg (fun _ => False) W w') (k2 : DeNo (s ++ ⟨#[120]⟩)) (k3 : DeNo (s.extract 0 n1)) :
    Calls Try.prog 6 #[.agg #[.int .i64 en, .string text, .string data, .int .i64 bs], .int .i64 a, .int .i64 b] w fun e w' => e = .returned (.bool true) ∧ Below w.heap.size w w' := by
  obtain ⟨u1, u2⟩ := sp_nums n h36 h5
  rw [← hn1] at u1 u2
  subst hpl
  have g0 : ¬ n < 32 := by clear u1 u2; omega
  have g1 : (0 : Int) ≤ (n1 : Int) := Int.natCast_nonneg _
  have g2 : (n1 : Int) ≤ (n : Int) := by clear u1 u2; omega
  have g3 : decide ((n : Int) < 32) = false := decide_eq_false (by clear u1 u2; omega)
  have g4 : decide (n < 32) = false := decide_eq_false g0
  have g5 : n1 ≤ n := by clear u1 u2; omega
  have hadd := fun W => add_fit W s ⟨#[120]⟩ (by rw [hn]; show n + 1 ≤ 100000; clear u1 u2; omega)
  have K1 := Lib.hid k1; have K2 := Lib.hid k2; have K3 := Lib.hid k3
  have X0 := Lib.hid (Blk.new w #[.int .i64 en, .string text, .string data, .int .i64 bs] 23)
  have C0 := Lib.hid (show Chg (fun _ => False) w (w.alloc (.cells #[.int .i64 en, .string text, .string data, .int .i64 bs] 23)) from (Chg.refl _ w).alloc _)
  have HN := Lib.hid hn
  clear k1 k2 k3 hp32 h36 h5 hn1
  go_enter Try.func6, Try.ntmps6
  go_wp2_with fail
  refine (p_shown _).mono ?_
  rintro e w1 ⟨rfl, b1⟩
  have X1 := Lib.hid ((chg_of_below b1).blk X0.out (fun a => a)); have C1 := Lib.hid (C0.out.trans (chg_of_below b1)); clear b1
  generalize w.heap.size = x2 at *
  have y0 := X1.out.cellv 0 _ rfl; have y1 := X1.out.cellv 1 _ rfl; have y2 := X1.out.cellv 2 _ rfl; have y3 := X1.out.cellv 3 _ rfl
  go_wp2_with fail
  refine (K1.out w1).mono ?_
  rintro e w2 ⟨rfl, c⟩
  have C2 := Lib.hid (C1.out.trans c); clear c y0 y1 y2 y3
  go_wp2_with fail
  refine (K2.out w2).mono ?_
  rintro e w3 ⟨rfl, c⟩
  have C3 := Lib.hid ((C2.out.trans c).alloc (.cells #[.int .i64 0, .string ⟨#[]⟩, .string ⟨#[]⟩, .int .i64 0] 23)); clear c
  go_wp2_with fail
  generalize w3.alloc (.cells #[.int .i64 0, .string ⟨#[]⟩, .string ⟨#[]⟩, .int .i64 0] 23) = v3 at *
  refine (K3.out v3).mono ?_
  rintro e w4 ⟨rfl, c⟩
  have C4 := Lib.hid ((C3.out.trans c).alloc (.cells #[.int .i64 0, .string ⟨#[]⟩, .string ⟨#[]⟩, .int .i64 0] 23)); clear c
  go_wp2_with fail
  go_ret
  exact ⟨rfl, C4.out.below (Nat.le_refl _) (fun _ h => h.elim)⟩
set_option maxRecDepth 100000 in
set_option maxHeartbeats 1600000 in
theorem spoilt_fftf (w : World) (en bs : Int) (text data s : ByteArray) (a b r d : Int) (hr : a.tmod 32 = r) (hd : b.tmod 256 = d) (pl n n1 : Nat) (hp32 : pl < 32) (hn : s.size = n) (hn1 : n1 = n - 1) (h36 : 36 ≤ n) (h5 : n ≤ 5000) (hneg : decide (r < 0) = false) (hpl : r = (pl : Int)) (hA : decide ((4 : Int) ≤ (pl : Int)) = false) (hB : decide ((pl : Int) < (20 : Int)) = true) (hD : (d == 0) = false) (k4 : ∃ d8 c c' : Nat, IntKind.u8.wrap d = (d8 : Int) ∧ byt s pl = c ∧ IntKind.u8.wrap ((c : Int) + (d8 : Int)) = (c' : Int) ∧ DeNo (spB s pl c')) (k1 : ∀ W, Calls Try.prog 9 #[.agg #[.int .i64 en, .string text, .string data, .int .i64 bs]] W fun r w' => r = .returned (.tuple #[.string s, .int .i64 0]) ∧ Chg (fun _ => False) W w') (k2 : DeNo (s ++ ⟨#[120]⟩)) (k3 : DeNo (s.extract 0 n1)) :
    Calls Try.prog 6 #[.agg #[.int .i64 en, .string text, .string data, .int .i64 bs], .int .i64 a, .int .i64 b] w fun e w' => e = .returned (.bool true) ∧ Below w.heap.size w w' := by
  obtain ⟨u1, u2⟩ := sp_nums n h36 h5
  rw [← hn1] at u1 u2
  subst hpl
  have g0 : ¬ n < 32 := by clear u1 u2; omega
  have g1 : (0 : Int) ≤ (n1 : Int) := Int.natCast_nonneg _
  have g2 : (n1 : Int) ≤ (n : Int) := by clear u1 u2; omega
  have g3 : decide ((n : Int) < 32) = false := decide_eq_false (by clear u1 u2; omega)
  have g4 : decide (n < 32) = false := decide_eq_false g0
  have g5 : n1 ≤ n := by clear u1 u2; omega
  have hadd := fun W => add_fit W s ⟨#[120]⟩ (by rw [hn]; show n + 1 ≤ 100000; clear u1 u2; omega)
  have K1 := Lib.hid k1; have K2 := Lib.hid k2; have K3 := Lib.hid k3
  have X0 := Lib.hid (Blk.new w #[.int .i64 en, .string text, .string data, .int .i64 bs] 23)
  have C0 := Lib.hid (show Chg (fun _ => False) w (w.alloc (.cells #[.int .i64 en, .string text, .string data, .int .i64 bs] 23)) from (Chg.refl _ w).alloc _)
  obtain ⟨d8, c, c', e1, e2, e3, k4⟩ := k4
  have K4 := Lib.hid k4
  have q3 : pl < n := by clear u1 u2; omega
  have q2 : (pl : Int) < (n : Int) := by clear u1 u2; omega
  have q1 : (0 : Int) ≤ (pl : Int) := Int.natCast_nonneg _
  have E2 := Lib.hid e2
  clear k4 e2
  have HN := Lib.hid hn
  clear k1 k2 k3 hp32 h36 h5 hn1
  go_enter Try.func6, Try.ntmps6
  go_wp2_with fail
  refine (p_shown _).mono ?_
  rintro e w1 ⟨rfl, b1⟩
  have X1 := Lib.hid ((chg_of_below b1).blk X0.out (fun a => a)); have C1 := Lib.hid (C0.out.trans (chg_of_below b1)); clear b1
  generalize w.heap.size = x2 at *
  have y0 := X1.out.cellv 0 _ rfl; have y1 := X1.out.cellv 1 _ rfl; have y2 := X1.out.cellv 2 _ rfl; have y3 := X1.out.cellv 3 _ rfl
  go_wp2_with fail
  refine (K1.out w1).mono ?_
  rintro e w2 ⟨rfl, c⟩
  have C2 := Lib.hid (C1.out.trans c); clear c y0 y1 y2 y3
  go_wp2_with fail
  refine (K2.out w2).mono ?_
  rintro e w3 ⟨rfl, c⟩
  have C3 := Lib.hid ((C2.out.trans c).alloc (.cells #[.int .i64 0, .string ⟨#[]⟩, .string ⟨#[]⟩, .int .i64 0] 23)); clear c
  go_wp2_with fail
  generalize w3.alloc (.cells #[.int .i64 0, .string ⟨#[]⟩, .string ⟨#[]⟩, .int .i64 0] 23) = v3 at *
  refine (K3.out v3).mono ?_
  rintro e w4 ⟨rfl, c⟩
  have C4 := Lib.hid ((C3.out.trans c).alloc (.cells #[.int .i64 0, .string ⟨#[]⟩, .string ⟨#[]⟩, .int .i64 0] 23)); clear c
  obtain ⟨W5, g, cap, hconv, hspk⟩ : ∃ W5 g cap, (convert 9 55 (.string s)).run Try.prog (w4.alloc (.cells #[.int .i64 0, .string ⟨#[]⟩, .string ⟨#[]⟩, .int .i64 0] 23)) = .ok (.slice (some ⟨g, 0, none⟩) n cap) W5 ∧ SpK (w4.alloc (.cells #[.int .i64 0, .string ⟨#[]⟩, .string ⟨#[]⟩, .int .i64 0] 23)) s g W5 := ⟨_, _, _, HN.out ▸ conv_sb _ s, SpK.made _ s⟩
  have z1 := hspk.cell pl (by rw [HN.out]; exact q3)
  have z2 := hspk.free pl (by rw [HN.out]; exact q3)
  rw [E2.out] at z1
  have hback := conv_bs (cap := cap) (c := c') hspk (show pl < s.size by rw [HN.out]; exact q3)
  rw [HN.out] at hback
  have C5 := Lib.hid (C4.out.trans (hspk.set (pl := pl) (v := .int .u8 (c' : Nat))))
  clear hspk
  go_wp2_with fail
  refine (K4.out _).mono ?_
  rintro e w6 ⟨rfl, c⟩
  have C6 := Lib.hid ((C5.out.trans c).alloc (.cells #[.int .i64 0, .string ⟨#[]⟩, .string ⟨#[]⟩, .int .i64 0] 23)); clear c
  go_wp2_with fail
  go_ret
  exact ⟨rfl, C6.out.below (Nat.le_refl _) (fun _ h => h.elim)⟩
set_option maxRecDepth 100000 in
theorem spoilt_all (w : World) (en bs : Int) (text data s : ByteArray) (a b r d : Int) (hr : a.tmod 32 = r) (hd : b.tmod 256 = d) (pl n n1 : Nat) (hp32 : pl < 32) (hn : s.size = n) (hn1 : n1 = n - 1) (h36 : 36 ≤ n) (h5 : n ≤ 5000) (hneg0 : -32 < r ∧ r < 32) (hpl : (pl : Int) = if r < 0 then r + 32 else r) (k1 : ∀ W, Calls Try.prog 9 #[.agg #[.int .i64 en, .string text, .string data, .int .i64 bs]] W fun r w' => r = .returned (.tuple #[.string s, .int .i64 0]) ∧ Chg (fun _ => False) W w') (k2 : DeNo (s ++ ⟨#[120]⟩)) (k3 : DeNo (s.extract 0 n1))
    (k4 : ¬ (4 ≤ pl ∧ pl < 20) → d ≠ 0 → ∃ d8 c c' : Nat, IntKind.u8.wrap d = (d8 : Int) ∧ byt s pl = c ∧ IntKind.u8.wrap ((c : Int) + (d8 : Int)) = (c' : Int) ∧ DeNo (spB s pl c')) :
    Calls Try.prog 6 #[.agg #[.int .i64 en, .string text, .string data, .int .i64 bs], .int .i64 a, .int .i64 b] w fun e w' => e = .returned (.bool true) ∧ Below w.heap.size w w' := by
  by_cases c0 : r < 0
  · have hN : decide (r < 0) = true := decide_eq_true c0
    rw [if_pos c0] at hpl
    have hP := hpl.symm
    cases hD : (d == 0) with
    | true =>
      by_cases cA : 4 ≤ pl
      · by_cases cB : pl < 20
        · exact spoilt_tttt w en bs text data s a b r d hr hd pl n n1 hp32 hn hn1 h36 h5 hN hP (decide_eq_true (by omega)) (decide_eq_true (by omega)) hD k1 k2 k3
        · exact spoilt_ttft w en bs text data s a b r d hr hd pl n n1 hp32 hn hn1 h36 h5 hN hP (decide_eq_true (by omega)) (decide_eq_false (by omega)) hD k1 k2 k3
      · exact spoilt_tftt w en bs text data s a b r d hr hd pl n n1 hp32 hn hn1 h36 h5 hN hP (decide_eq_false (by omega)) (decide_eq_true (by omega)) hD k1 k2 k3
    | false =>
      by_cases cA : 4 ≤ pl
      · by_cases cB : pl < 20
        · exact spoilt_tttf w en bs text data s a b r d hr hd pl n n1 hp32 hn hn1 h36 h5 hN hP (decide_eq_true (by omega)) (decide_eq_true (by omega)) hD k1 k2 k3
        · exact spoilt_ttff w en bs text data s a b r d hr hd pl n n1 hp32 hn hn1 h36 h5 hN hP (decide_eq_true (by omega)) (decide_eq_false (by omega)) hD (k4 (by omega) (by intro h; rw [h] at hD; exact absurd hD (by decide))) k1 k2 k3
      · exact spoilt_tftf w en bs text data s a b r d hr hd pl n n1 hp32 hn hn1 h36 h5 hN hP (decide_eq_false (by omega)) (decide_eq_true (by omega)) hD (k4 (by omega) (by intro h; rw [h] at hD; exact absurd hD (by decide))) k1 k2 k3
  · have hN : decide (r < 0) = false := decide_eq_false c0
    rw [if_neg c0] at hpl
    have hP := hpl.symm
    cases hD : (d == 0) with
    | true =>
      by_cases cA : 4 ≤ pl
      · by_cases cB : pl < 20
        · exact spoilt_fttt w en bs text data s a b r d hr hd pl n n1 hp32 hn hn1 h36 h5 hN hP (decide_eq_true (by omega)) (decide_eq_true (by omega)) hD k1 k2 k3
        · exact spoilt_ftft w en bs text data s a b r d hr hd pl n n1 hp32 hn hn1 h36 h5 hN hP (decide_eq_true (by omega)) (decide_eq_false (by omega)) hD k1 k2 k3
      · exact spoilt_fftt w en bs text data s a b r d hr hd pl n n1 hp32 hn hn1 h36 h5 hN hP (decide_eq_false (by omega)) (decide_eq_true (by omega)) hD k1 k2 k3
    | false =>
      by_cases cA : 4 ≤ pl
      · by_cases cB : pl < 20
        · exact spoilt_fttf w en bs text data s a b r d hr hd pl n n1 hp32 hn hn1 h36 h5 hN hP (decide_eq_true (by omega)) (decide_eq_true (by omega)) hD k1 k2 k3
        · exact spoilt_ftff w en bs text data s a b r d hr hd pl n n1 hp32 hn hn1 h36 h5 hN hP (decide_eq_true (by omega)) (decide_eq_false (by omega)) hD (k4 (by omega) (by intro h; rw [h] at hD; exact absurd hD (by decide))) k1 k2 k3
      · exact spoilt_fftf w en bs text data s a b r d hr hd pl n n1 hp32 hn hn1 h36 h5 hN hP (decide_eq_false (by omega)) (decide_eq_true (by omega)) hD (k4 (by omega) (by intro h; rw [h] at hD; exact absurd hD (by decide))) k1 k2 k3
set_option maxRecDepth 100000 in
set_option maxHeartbeats 1600000 in
theorem spoilt_no (w : World) (en bs : Int) (text data : ByteArray) (a b : Int) (k1 : ∀ W, Calls Try.prog 9 #[.agg #[.int .i64 en, .string text, .string data, .int .i64 bs]] W fun r w' => r = .returned (.tuple #[.string ⟨#[]⟩, .int .i64 6]) ∧ Chg (fun _ => False) W w') :
    Calls Try.prog 6 #[.agg #[.int .i64 en, .string text, .string data, .int .i64 bs], .int .i64 a, .int .i64 b] w fun e w' => e = .returned (.bool true) ∧ Below w.heap.size w w' := by
  have K1 := Lib.hid k1
  have X0 := Lib.hid (Blk.new w #[.int .i64 en, .string text, .string data, .int .i64 bs] 23)
  have C0 := Lib.hid (show Chg (fun _ => False) w (w.alloc (.cells #[.int .i64 en, .string text, .string data, .int .i64 bs] 23)) from (Chg.refl _ w).alloc _)
  clear k1
  go_enter Try.func6, Try.ntmps6
  go_wp2_with fail
  refine (p_shown _).mono ?_
  rintro e w1 ⟨rfl, b1⟩
  have X1 := Lib.hid ((chg_of_below b1).blk X0.out (fun a => a)); have C1 := Lib.hid (C0.out.trans (chg_of_below b1)); clear b1
  generalize w.heap.size = x2 at *
  have y0 := X1.out.cellv 0 _ rfl; have y1 := X1.out.cellv 1 _ rfl; have y2 := X1.out.cellv 2 _ rfl; have y3 := X1.out.cellv 3 _ rfl
  go_wp2_with fail
  refine (K1.out w1).mono ?_
  rintro e w2 ⟨rfl, c⟩
  have C2 := Lib.hid (C1.out.trans c); clear c y0 y1 y2 y3
  go_wp2_with fail
  go_ret
  exact ⟨rfl, C2.out.below (Nat.le_refl _) (fun _ h => h.elim)⟩
theorem u8_wrap (x : Int) : IntKind.u8.wrap x = x % 256 := by simp [IntKind.wrap, IntKind.bits, IntKind.signed]
theorem progSpoilt_walk (w : World) (en : Int) (_w0 : (Lit.int .i64 en).wf = true) (text : ByteArray) (_w1 : text.size ≤ maxLen) (data : ByteArray) (_w2 : data.size ≤ maxLen) (bs : Int) (_w3 : (Lit.int .i64 bs).wf = true) (a : Int) (_w4 : (Lit.int .i64 a).wf = true) (b : Int) (_w5 : (Lit.int .i64 b).wf = true) :
    Calls Try.prog 6 #[.agg #[.int .i64 en, .string text, .string data, .int .i64 bs], .int .i64 a, .int .i64 b] w fun e w' => e = .returned (.bool true) ∧ Below w.heap.size w w' := by
  have hsm : (⟨en, text, data, bs⟩ : Prg).Small := ⟨by unfold maxLen at _w1; exact _w1, by unfold maxLen at _w2; exact _w2⟩
  obtain ⟨x, hx⟩ : ∃ x : Prg, x = ⟨en, text, data, bs⟩ := ⟨_, rfl⟩
  rw [← hx] at hsm
  have hv : x.val = .agg #[.int .i64 en, .string text, .string data, .int .i64 bs] := by rw [hx]; rfl
  have k1 := fun W => p_encode W x hsm
  rw [hv] at k1
  cases hm : x.may with
  | true =>
    have e : encV x = .tuple #[.string (encB x), .int .i64 0] := by unfold encV; rw [if_pos hm]
    rw [e] at k1
    obtain ⟨m1, m2, m3, m4, m5, m6, m7, m8, m9, m10⟩ := may_nums hm
    have hz := encB_size x
    have hr0 : -32 < a.tmod 32 ∧ a.tmod 32 < 32 := ⟨by have h2 := Int.tmod_lt_of_pos (-a) (show (0 : Int) < 32 by decide); rw [Int.neg_tmod] at h2; omega, Int.tmod_lt_of_pos a (by decide)⟩
    obtain ⟨r, hr⟩ : ∃ r, a.tmod 32 = r := ⟨_, rfl⟩
    obtain ⟨d, hd⟩ : ∃ d, b.tmod 256 = d := ⟨_, rfl⟩
    have hd0 : -256 < d ∧ d < 256 := by
      rw [← hd]
      exact ⟨by have h2 := Int.tmod_lt_of_pos (-b) (show (0 : Int) < 256 by decide); rw [Int.neg_tmod] at h2; omega, Int.tmod_lt_of_pos b (by decide)⟩
    rw [hr] at hr0
    obtain ⟨pl, hpl⟩ : ∃ pl : Nat, (pl : Int) = if r < 0 then r + 32 else r := ⟨(if r < 0 then r + 32 else r).toNat, by split <;> omega⟩
    have hp32 : pl < 32 := by split at hpl <;> omega
    refine spoilt_all w en bs text data (encB x) a b r d hr hd pl (encB x).size ((encB x).size - 1) hp32 rfl rfl (by omega) (by omega) hr0 hpl k1 (DeNo.of (notF_app hm) (by rw [ByteArray.size_append, hz]; show _ + 1 ≤ _; omega)) (DeNo.of (notF_cut hm) (by rw [ByteArray.size_extract]; omega)) (fun c4 c5 => ?_)
    have hb := byt_lt (encB x) pl
    have hpp : pl < 4 ∨ 20 ≤ pl ∧ pl < 32 := by
      rcases Nat.lt_or_ge pl 4 with h | h
      · exact .inl h
      · rcases Nat.lt_or_ge pl 20 with h' | h'
        · exact absurd ⟨h, h'⟩ c4
        · exact .inr ⟨h', hp32⟩
    obtain ⟨d8, hd8, hd1, hd2⟩ : ∃ d8 : Nat, (d8 : Int) = d % 256 ∧ d8 < 256 ∧ d8 ≠ 0 := ⟨(d % 256).toNat, by omega, by omega, by omega⟩
    obtain ⟨c, hc⟩ : ∃ c, byt (encB x) pl = c := ⟨_, rfl⟩
    rw [hc] at hb
    have hne : (c + d8) % 256 ≠ c := by clear hpl hr0 hd0 hd8; omega
    refine ⟨d8, c, (c + d8) % 256, by rw [u8_wrap]; exact hd8.symm, hc, by rw [u8_wrap]; omega, DeNo.of (notF_byte hm (spB_size _ _ _) hpp ?_) (by rw [spB_size]; omega)⟩
    rw [spB_at _ _ _ (by omega) (Nat.mod_lt _ (by decide)), hc]
    exact hne
  | false =>
    have e : encV x = .tuple #[.string ⟨#[]⟩, .int .i64 6] := by unfold encV; rw [if_neg (by rw [hm]; decide)]
    rw [e] at k1
    exact spoilt_no w en bs text data a b k1
end Go.Proofs.Ytijooajhjcfneaa
