/-
  The walk of the statement ProgBack: true, for every input.
-/
import Derived.Test.YtijooajhjcfneaaQWalkProgForms
namespace Go.Proofs.Ytijooajhjcfneaa
open Go.RowKit

set_option maxRecDepth 100000 in
set_option maxHeartbeats 1600000 in
theorem progBack_y_y (w : World) (en bs : Int) (text data s u : ByteArray) (za zb : Int) (zt zd : ByteArray) (k1 : ∀ W, Calls Try.prog 9 #[.agg #[.int .i64 en, .string text, .string data, .int .i64 bs]] W fun r w' => r = .returned (.tuple #[.string u, .int .i64 0]) ∧ Chg (fun _ => False) W w') (k2 : ∀ W, Calls Try.prog 11 #[.string u] W fun r w' => r = .returned (.tuple #[.agg #[.int .i64 en, .string text, .string data, .int .i64 bs], .int .i64 0]) ∧ Chg (fun _ => False) W w') (k3 : ∀ W, Calls Try.prog 11 #[.string s] W fun r w' => r = .returned (.tuple #[.agg #[.int .i64 za, .string zt, .string zd, .int .i64 zb], .int .i64 0]) ∧ Chg (fun _ => False) W w') (k4 : ∀ W, Calls Try.prog 9 #[.agg #[.int .i64 za, .string zt, .string zd, .int .i64 zb]] W fun r w' => r = .returned (.tuple #[.string s, .int .i64 0]) ∧ Chg (fun _ => False) W w') :
    Calls Try.prog 4 #[.agg #[.int .i64 en, .string text, .string data, .int .i64 bs], .string s] w fun e w' => e = .returned (.bool true) ∧ Below w.heap.size w w' := by
  have K1 := Lib.hid k1; have K3 := Lib.hid k3; have K2 := Lib.hid k2; have K4 := Lib.hid k4
  have X0 := Lib.hid (Blk.new w #[.int .i64 en, .string text, .string data, .int .i64 bs] 23)
  have C0 := Lib.hid (show Chg (fun _ => False) w (w.alloc (.cells #[.int .i64 en, .string text, .string data, .int .i64 bs] 23)) from (Chg.refl _ w).alloc _)
  clear k1 k3 k2 k4
  go_enter Try.func4, Try.ntmps4
  go_wp2_with fail
  refine (p_shown _).mono ?_
  rintro e w1 ⟨rfl, b1⟩
  have X1 := Lib.hid ((chg_of_below b1).blk X0.out (fun a => a)); have C1 := Lib.hid (C0.out.trans (chg_of_below b1)); clear b1
  generalize w.heap.size = x2 at *
  have y0 := X1.out.cellv 0 _ rfl; have y1 := X1.out.cellv 1 _ rfl; have y2 := X1.out.cellv 2 _ rfl; have y3 := X1.out.cellv 3 _ rfl
  go_wp2_with fail
  refine (K1.out w1).mono ?_
  rintro e w2 ⟨rfl, c⟩
  have X2 := Lib.hid (c.blk X1.out (fun a => a)); have C2 := Lib.hid (C1.out.trans c); clear c y0 y1 y2 y3
  go_wp2_with fail
  refine (K2.out w2).mono ?_
  rintro e w3 ⟨rfl, c⟩
  have X3 := Lib.hid (c.blk X2.out (fun a => a)); have C3 := Lib.hid (C2.out.trans c); clear c
  have x := X3.out.alloc (.cells #[.int .i64 en, .string text, .string data, .int .i64 bs] 23)
  have y := Blk.new w3 #[.int .i64 en, .string text, .string data, .int .i64 bs] 23
  have D3 := Lib.hid (show Chg (fun _ => False) w3 (w3.alloc (.cells #[.int .i64 en, .string text, .string data, .int .i64 bs] 23)) from (Chg.refl _ _).alloc _)
  have x0 := x.cellv 0 _ rfl; have x1 := x.cellv 1 _ rfl; have x2' := x.cellv 2 _ rfl; have x3 := x.cellv 3 _ rfl
  have y0 := y.cellv 0 _ rfl; have y1 := y.cellv 1 _ rfl; have y2 := y.cellv 2 _ rfl; have y3 := y.cellv 3 _ rfl
  clear x y
  go_wp2_with fail
  have C4 := Lib.hid (C3.out.trans D3.out)
  clear x0 x1 x2' x3 y0 y1 y2 y3
  refine (K3.out _).mono ?_
  rintro e v1 ⟨rfl, c⟩
  have C5 := Lib.hid (C4.out.trans c); clear c
  have D5 := Lib.hid (show Chg (fun _ => False) v1 (v1.alloc (.cells #[.int .i64 za, .string zt, .string zd, .int .i64 zb] 23)) from (Chg.refl _ _).alloc _)
  have y := (Blk.new v1 #[.int .i64 za, .string zt, .string zd, .int .i64 zb] 23)
  have y0 := y.cellv 0 _ rfl; have y1 := y.cellv 1 _ rfl; have y2 := y.cellv 2 _ rfl; have y3 := y.cellv 3 _ rfl
  clear y
  go_wp2_with fail
  refine (K4.out _).mono ?_
  rintro e v2 ⟨rfl, c⟩
  have C6 := Lib.hid ((C5.out.trans D5.out).trans c); clear c y0 y1 y2 y3
  go_wp2_with fail
  go_ret
  exact ⟨rfl, C6.out.below (Nat.le_refl _) (fun _ h => h.elim)⟩
set_option maxRecDepth 100000 in
set_option maxHeartbeats 1600000 in
theorem progBack_y_n (w : World) (en bs : Int) (text data s u : ByteArray) (k1 : ∀ W, Calls Try.prog 9 #[.agg #[.int .i64 en, .string text, .string data, .int .i64 bs]] W fun r w' => r = .returned (.tuple #[.string u, .int .i64 0]) ∧ Chg (fun _ => False) W w') (k2 : ∀ W, Calls Try.prog 11 #[.string u] W fun r w' => r = .returned (.tuple #[.agg #[.int .i64 en, .string text, .string data, .int .i64 bs], .int .i64 0]) ∧ Chg (fun _ => False) W w') (k3 : ∀ W, Calls Try.prog 11 #[.string s] W fun r w' => r = .returned (.tuple #[.agg #[.int .i64 0, .string ⟨#[]⟩, .string ⟨#[]⟩, .int .i64 0], .int .i64 6]) ∧ Chg (fun _ => False) W w') :
    Calls Try.prog 4 #[.agg #[.int .i64 en, .string text, .string data, .int .i64 bs], .string s] w fun e w' => e = .returned (.bool true) ∧ Below w.heap.size w w' := by
  have K1 := Lib.hid k1; have K3 := Lib.hid k3; have K2 := Lib.hid k2
  have X0 := Lib.hid (Blk.new w #[.int .i64 en, .string text, .string data, .int .i64 bs] 23)
  have C0 := Lib.hid (show Chg (fun _ => False) w (w.alloc (.cells #[.int .i64 en, .string text, .string data, .int .i64 bs] 23)) from (Chg.refl _ w).alloc _)
  clear k1 k3 k2
  go_enter Try.func4, Try.ntmps4
  go_wp2_with fail
  refine (p_shown _).mono ?_
  rintro e w1 ⟨rfl, b1⟩
  have X1 := Lib.hid ((chg_of_below b1).blk X0.out (fun a => a)); have C1 := Lib.hid (C0.out.trans (chg_of_below b1)); clear b1
  generalize w.heap.size = x2 at *
  have y0 := X1.out.cellv 0 _ rfl; have y1 := X1.out.cellv 1 _ rfl; have y2 := X1.out.cellv 2 _ rfl; have y3 := X1.out.cellv 3 _ rfl
  go_wp2_with fail
  refine (K1.out w1).mono ?_
  rintro e w2 ⟨rfl, c⟩
  have X2 := Lib.hid (c.blk X1.out (fun a => a)); have C2 := Lib.hid (C1.out.trans c); clear c y0 y1 y2 y3
  go_wp2_with fail
  refine (K2.out w2).mono ?_
  rintro e w3 ⟨rfl, c⟩
  have X3 := Lib.hid (c.blk X2.out (fun a => a)); have C3 := Lib.hid (C2.out.trans c); clear c
  have x := X3.out.alloc (.cells #[.int .i64 en, .string text, .string data, .int .i64 bs] 23)
  have y := Blk.new w3 #[.int .i64 en, .string text, .string data, .int .i64 bs] 23
  have D3 := Lib.hid (show Chg (fun _ => False) w3 (w3.alloc (.cells #[.int .i64 en, .string text, .string data, .int .i64 bs] 23)) from (Chg.refl _ _).alloc _)
  have x0 := x.cellv 0 _ rfl; have x1 := x.cellv 1 _ rfl; have x2' := x.cellv 2 _ rfl; have x3 := x.cellv 3 _ rfl
  have y0 := y.cellv 0 _ rfl; have y1 := y.cellv 1 _ rfl; have y2 := y.cellv 2 _ rfl; have y3 := y.cellv 3 _ rfl
  clear x y
  go_wp2_with fail
  have C4 := Lib.hid (C3.out.trans D3.out)
  clear x0 x1 x2' x3 y0 y1 y2 y3
  refine (K3.out _).mono ?_
  rintro e v1 ⟨rfl, c⟩
  have C5 := Lib.hid (C4.out.trans c); clear c
  go_wp2_with fail
  go_ret
  exact ⟨rfl, (C5.out.alloc _).below (Nat.le_refl _) (fun _ h => h.elim)⟩
set_option maxRecDepth 100000 in
set_option maxHeartbeats 1600000 in
theorem progBack_n_y (w : World) (en bs : Int) (text data s u : ByteArray) (za zb : Int) (zt zd : ByteArray) (k1 : ∀ W, Calls Try.prog 9 #[.agg #[.int .i64 en, .string text, .string data, .int .i64 bs]] W fun r w' => r = .returned (.tuple #[.string u, .int .i64 6]) ∧ Chg (fun _ => False) W w') (k3 : ∀ W, Calls Try.prog 11 #[.string s] W fun r w' => r = .returned (.tuple #[.agg #[.int .i64 za, .string zt, .string zd, .int .i64 zb], .int .i64 0]) ∧ Chg (fun _ => False) W w') (k4 : ∀ W, Calls Try.prog 9 #[.agg #[.int .i64 za, .string zt, .string zd, .int .i64 zb]] W fun r w' => r = .returned (.tuple #[.string s, .int .i64 0]) ∧ Chg (fun _ => False) W w') :
    Calls Try.prog 4 #[.agg #[.int .i64 en, .string text, .string data, .int .i64 bs], .string s] w fun e w' => e = .returned (.bool true) ∧ Below w.heap.size w w' := by
  have K1 := Lib.hid k1; have K3 := Lib.hid k3; have K4 := Lib.hid k4
  have X0 := Lib.hid (Blk.new w #[.int .i64 en, .string text, .string data, .int .i64 bs] 23)
  have C0 := Lib.hid (show Chg (fun _ => False) w (w.alloc (.cells #[.int .i64 en, .string text, .string data, .int .i64 bs] 23)) from (Chg.refl _ w).alloc _)
  clear k1 k3 k4
  go_enter Try.func4, Try.ntmps4
  go_wp2_with fail
  refine (p_shown _).mono ?_
  rintro e w1 ⟨rfl, b1⟩
  have X1 := Lib.hid ((chg_of_below b1).blk X0.out (fun a => a)); have C1 := Lib.hid (C0.out.trans (chg_of_below b1)); clear b1
  generalize w.heap.size = x2 at *
  have y0 := X1.out.cellv 0 _ rfl; have y1 := X1.out.cellv 1 _ rfl; have y2 := X1.out.cellv 2 _ rfl; have y3 := X1.out.cellv 3 _ rfl
  go_wp2_with fail
  refine (K1.out w1).mono ?_
  rintro e w2 ⟨rfl, c⟩
  have X2 := Lib.hid (c.blk X1.out (fun a => a)); have C2 := Lib.hid (C1.out.trans c); clear c y0 y1 y2 y3
  go_wp2_with fail
  refine (K3.out w2).mono ?_
  rintro e v1 ⟨rfl, c⟩
  have C5 := Lib.hid (C2.out.trans c); clear c
  have D5 := Lib.hid (show Chg (fun _ => False) v1 (v1.alloc (.cells #[.int .i64 za, .string zt, .string zd, .int .i64 zb] 23)) from (Chg.refl _ _).alloc _)
  have y := (Blk.new v1 #[.int .i64 za, .string zt, .string zd, .int .i64 zb] 23)
  have y0 := y.cellv 0 _ rfl; have y1 := y.cellv 1 _ rfl; have y2 := y.cellv 2 _ rfl; have y3 := y.cellv 3 _ rfl
  clear y
  go_wp2_with fail
  refine (K4.out _).mono ?_
  rintro e v2 ⟨rfl, c⟩
  have C6 := Lib.hid ((C5.out.trans D5.out).trans c); clear c y0 y1 y2 y3
  go_wp2_with fail
  go_ret
  exact ⟨rfl, C6.out.below (Nat.le_refl _) (fun _ h => h.elim)⟩
set_option maxRecDepth 100000 in
set_option maxHeartbeats 1600000 in
theorem progBack_n_n (w : World) (en bs : Int) (text data s u : ByteArray) (k1 : ∀ W, Calls Try.prog 9 #[.agg #[.int .i64 en, .string text, .string data, .int .i64 bs]] W fun r w' => r = .returned (.tuple #[.string u, .int .i64 6]) ∧ Chg (fun _ => False) W w') (k3 : ∀ W, Calls Try.prog 11 #[.string s] W fun r w' => r = .returned (.tuple #[.agg #[.int .i64 0, .string ⟨#[]⟩, .string ⟨#[]⟩, .int .i64 0], .int .i64 6]) ∧ Chg (fun _ => False) W w') :
    Calls Try.prog 4 #[.agg #[.int .i64 en, .string text, .string data, .int .i64 bs], .string s] w fun e w' => e = .returned (.bool true) ∧ Below w.heap.size w w' := by
  have K1 := Lib.hid k1; have K3 := Lib.hid k3
  have X0 := Lib.hid (Blk.new w #[.int .i64 en, .string text, .string data, .int .i64 bs] 23)
  have C0 := Lib.hid (show Chg (fun _ => False) w (w.alloc (.cells #[.int .i64 en, .string text, .string data, .int .i64 bs] 23)) from (Chg.refl _ w).alloc _)
  clear k1 k3
  go_enter Try.func4, Try.ntmps4
  go_wp2_with fail
  refine (p_shown _).mono ?_
  rintro e w1 ⟨rfl, b1⟩
  have X1 := Lib.hid ((chg_of_below b1).blk X0.out (fun a => a)); have C1 := Lib.hid (C0.out.trans (chg_of_below b1)); clear b1
  generalize w.heap.size = x2 at *
  have y0 := X1.out.cellv 0 _ rfl; have y1 := X1.out.cellv 1 _ rfl; have y2 := X1.out.cellv 2 _ rfl; have y3 := X1.out.cellv 3 _ rfl
  go_wp2_with fail
  refine (K1.out w1).mono ?_
  rintro e w2 ⟨rfl, c⟩
  have X2 := Lib.hid (c.blk X1.out (fun a => a)); have C2 := Lib.hid (C1.out.trans c); clear c y0 y1 y2 y3
  go_wp2_with fail
  refine (K3.out w2).mono ?_
  rintro e v1 ⟨rfl, c⟩
  have C5 := Lib.hid (C2.out.trans c); clear c
  go_wp2_with fail
  go_ret
  exact ⟨rfl, (C5.out.alloc _).below (Nat.le_refl _) (fun _ h => h.elim)⟩
theorem progBack_walk (w : World) (en : Int) (_w0 : (Lit.int .i64 en).wf = true) (text : ByteArray) (_w1 : text.size ≤ maxLen) (data : ByteArray) (_w2 : data.size ≤ maxLen) (bs : Int) (_w3 : (Lit.int .i64 bs).wf = true) (s : ByteArray) (_w4 : s.size ≤ 140737488351232) :
    Calls Try.prog 4 #[.agg #[.int .i64 en, .string text, .string data, .int .i64 bs], .string s] w fun e w' => e = .returned (.bool true) ∧ Below w.heap.size w w' := by
  have hsm : (⟨en, text, data, bs⟩ : Prg).Small := ⟨by unfold maxLen at _w1; exact _w1, by unfold maxLen at _w2; exact _w2⟩
  obtain ⟨x, hx⟩ : ∃ x : Prg, x = ⟨en, text, data, bs⟩ := ⟨_, rfl⟩
  rw [← hx] at hsm
  have hv : x.val = .agg #[.int .i64 en, .string text, .string data, .int .i64 bs] := by rw [hx]; rfl
  have k1 := fun W => p_encode W x hsm
  have k3 := fun W => p_decode W s (by omega)
  rw [hv] at k1
  have done : ∀ y : Prg, y.may = true → y.Small := fun y hy => by
    obtain ⟨m1, m2, m3, m4, m5, m6, m7, m8, m9, m10⟩ := may_nums hy
    exact ⟨by omega, by omega⟩
  have KF : IsF s → ∀ W, Calls Try.prog 9 #[(xOf s).val] W fun r w' => r = .returned (.tuple #[.string s, .int .i64 0]) ∧ Chg (fun _ => False) W w' := fun h W => by
    have k := p_encode W (xOf s) (done _ h.1)
    unfold encV at k
    rw [if_pos h.1, h.2] at k
    exact k
  cases hm : x.may with
  | true =>
    have k2 := fun W => p_decode W (encB x) (by
      obtain ⟨m1, m2, m3, m4, m5, m6, m7, m8, m9, m10⟩ := may_nums hm
      rw [encB_size]; omega)
    rw [decV_yes (IsF.of hm), xOf_enc hm, hv] at k2
    have e : encV x = .tuple #[.string (encB x), .int .i64 0] := by unfold encV; rw [if_pos hm]
    rw [e] at k1
    by_cases hf : IsF s
    · rw [decV_yes hf] at k3
      exact progBack_y_y w en bs text data s _ _ _ _ _ k1 k2 k3 (KF hf)
    · rw [decV_no hf] at k3
      exact progBack_y_n w en bs text data s _ k1 k2 k3
  | false =>
    have e : encV x = .tuple #[.string ⟨#[]⟩, .int .i64 6] := by unfold encV; rw [if_neg (by rw [hm]; decide)]
    rw [e] at k1
    by_cases hf : IsF s
    · rw [decV_yes hf] at k3
      exact progBack_n_y w en bs text data s _ _ _ _ _ k1 k3 (KF hf)
    · rw [decV_no hf] at k3
      exact progBack_n_n w en bs text data s _ k1 k3
end Go.Proofs.Ytijooajhjcfneaa
