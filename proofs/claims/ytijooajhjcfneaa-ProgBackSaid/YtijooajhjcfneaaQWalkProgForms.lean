/-
  The walk of the statement ProgForms: true, for every input.
-/
import Derived.Test.YtijooajhjcfneaaQPgShown
namespace Go.Proofs.Ytijooajhjcfneaa
open Go.RowKit

theorem encV_form (x : Prg) : ∃ (u : ByteArray) (e : Int), encV x = .tuple #[.string u, .int .i64 e] := by
  unfold encV
  split
  · exact ⟨_, _, rfl⟩
  · exact ⟨_, _, rfl⟩
theorem decV_form (s : ByteArray) : ∃ (a b e : Int) (t d : ByteArray), decV s = .tuple #[.agg #[.int .i64 a, .string t, .string d, .int .i64 b], .int .i64 e] := by
  by_cases h : IsF s
  · exact ⟨_, _, _, _, _, decV_yes h⟩
  · exact ⟨_, _, _, _, _, decV_no h⟩
theorem sizeV2_form (x : Prg) : ∃ (a b : Int), sizeV2 x = .tuple #[.int .i64 a, .int .i64 b] := by
  unfold sizeV2
  split
  · exact ⟨_, _, rfl⟩
  · exact ⟨_, _, rfl⟩
set_option maxRecDepth 100000 in
set_option maxHeartbeats 1600000 in
theorem progForms_walk (w : World) (en : Int) (_w0 : (Lit.int .i64 en).wf = true) (text : ByteArray) (_w1 : text.size ≤ maxLen) (data : ByteArray) (_w2 : data.size ≤ maxLen) (bs : Int) (_w3 : (Lit.int .i64 bs).wf = true) (s : ByteArray) (_w4 : s.size ≤ 140737488351232) :
    Calls Try.prog 3 #[.agg #[.int .i64 en, .string text, .string data, .int .i64 bs], .string s] w fun e w' => e = .returned (.bool true) ∧ Below w.heap.size w w' := by
  have hsm : (⟨en, text, data, bs⟩ : Prg).Small := ⟨by unfold maxLen at _w1; exact _w1, by unfold maxLen at _w2; exact _w2⟩
  obtain ⟨x, hx⟩ : ∃ x : Prg, x = ⟨en, text, data, bs⟩ := ⟨_, rfl⟩
  rw [← hx] at hsm
  have hv : x.val = .agg #[.int .i64 en, .string text, .string data, .int .i64 bs] := by rw [hx]; rfl
  have k1 := fun W => p_may W x hsm
  have k2 := fun W => p_encode W x hsm
  have k3 := fun W => q_encode W x hsm
  have k4 := fun W => p_decode W s (by omega)
  have k5 := fun W => q_decode W s (by omega)
  have k6 := fun W => p_size W x hsm
  have k7 := fun W => q_size W x hsm
  have k8 := fun W => q_may W x hsm
  obtain ⟨u, e1, h1⟩ := encV_form x
  obtain ⟨za, zb, e2, zt, zd, h2⟩ := decV_form s
  obtain ⟨sa, sb, h3⟩ := sizeV2_form x
  rw [hv] at k1 k2 k3 k6 k7 k8
  rw [h1] at k2 k3
  rw [h2] at k4 k5
  rw [h3] at k6 k7
  generalize x.may = may at *
  have K1 := Lib.hid k1; have K2 := Lib.hid k2; have K3 := Lib.hid k3; have K4 := Lib.hid k4; have K5 := Lib.hid k5; have K6 := Lib.hid k6; have K7 := Lib.hid k7; have K8 := Lib.hid k8
  have b0 := Blk.new w #[.int .i64 en, .string text, .string data, .int .i64 bs] 23
  have X0 := Lib.hid b0
  have C0 := Lib.hid (show Chg (fun _ => False) w (w.alloc (.cells #[.int .i64 en, .string text, .string data, .int .i64 bs] 23)) from (Chg.refl _ w).alloc _)
  clear k1 k2 k3 k4 k5 k6 k7 k8 h1 h2 h3 hv hx hsm _w0 _w1 _w2 _w3 _w4 b0
  go_enter Try.func3, Try.ntmps3
  go_wp2_with fail
  refine (p_shown _).mono ?_
  rintro e w1 ⟨rfl, b1⟩
  have X1 := Lib.hid ((chg_of_below b1).blk X0.out (fun a => a)); have C1 := Lib.hid (C0.out.trans (chg_of_below b1)); clear b1
  generalize w.heap.size = x2 at *
  have y0 := X1.out.cellv 0 _ rfl; have y1 := X1.out.cellv 1 _ rfl; have y2 := X1.out.cellv 2 _ rfl; have y3 := X1.out.cellv 3 _ rfl
  go_wp2_with fail
  refine (K1.out w1).mono ?_
  rintro e w2 ⟨rfl, c⟩
  have X2 := Lib.hid (c.blk X1.out (fun a => a)); have C2 := Lib.hid (C1.out.trans c); clear c y0 y1 y2 y3
  have y0 := X2.out.cellv 0 _ rfl; have y1 := X2.out.cellv 1 _ rfl; have y2 := X2.out.cellv 2 _ rfl; have y3 := X2.out.cellv 3 _ rfl
  go_wp2_with fail
  refine (K2.out w2).mono ?_
  rintro e w3 ⟨rfl, c⟩
  have X3 := Lib.hid (c.blk X2.out (fun a => a)); have C3 := Lib.hid (C2.out.trans c); clear c y0 y1 y2 y3
  have y0 := X3.out.cellv 0 _ rfl; have y1 := X3.out.cellv 1 _ rfl; have y2 := X3.out.cellv 2 _ rfl; have y3 := X3.out.cellv 3 _ rfl
  go_wp2_with fail
  refine (K3.out w3).mono ?_
  rintro e w4 ⟨rfl, c⟩
  have X4 := Lib.hid (c.blk X3.out (fun a => a)); have C4 := Lib.hid (C3.out.trans c); clear c y0 y1 y2 y3
  go_wp2_with fail
  refine (K4.out w4).mono ?_
  rintro e w5 ⟨rfl, c⟩
  have X5 := Lib.hid (c.blk X4.out (fun a => a)); have C5 := Lib.hid (C4.out.trans c); clear c
  go_wp2_with fail
  have D5 := Lib.hid (show Chg (fun _ => False) w5 (w5.alloc (.cells #[.int .i64 za, .string zt, .string zd, .int .i64 zb] 23)) from (Chg.refl _ _).alloc _)
  have Y5 := Lib.hid (Blk.new w5 #[.int .i64 za, .string zt, .string zd, .int .i64 zb] 23)
  generalize w5.alloc (.cells #[.int .i64 za, .string zt, .string zd, .int .i64 zb] 23) = v5 at *
  generalize w5.heap.size = x11 at *
  refine (K5.out v5).mono ?_
  rintro e w6 ⟨rfl, c⟩
  have C6 := Lib.hid ((C5.out.trans D5.out).trans c)
  have X6 := Lib.hid (c.blk (D5.out.blk X5.out (fun a => a)) (fun a => a)); have Y6 := Lib.hid (c.blk Y5.out (fun a => a)); clear c
  have D6 := Lib.hid (show Chg (fun _ => False) w6 (w6.alloc (.cells #[.int .i64 za, .string zt, .string zd, .int .i64 zb] 23)) from (Chg.refl _ _).alloc _)
  have Z6 := Lib.hid (Blk.new w6 #[.int .i64 za, .string zt, .string zd, .int .i64 zb] 23)
  have X6 := Lib.hid (D6.out.blk X6.out (fun a => a)); have Y6 := Lib.hid (D6.out.blk Y6.out (fun a => a))
  have y0 := X6.out.cellv 0 _ rfl; have y1 := X6.out.cellv 1 _ rfl; have y2 := X6.out.cellv 2 _ rfl; have y3 := X6.out.cellv 3 _ rfl
  go_wp2_with fail
  have C7 := Lib.hid (C6.out.trans D6.out)
  clear y0 y1 y2 y3
  generalize w6.alloc (.cells #[.int .i64 za, .string zt, .string zd, .int .i64 zb] 23) = v6 at *
  generalize w6.heap.size = x13 at *
  refine (K6.out v6).mono ?_
  rintro e w7 ⟨rfl, c⟩
  have C8 := Lib.hid (C7.out.trans c)
  have X7 := Lib.hid (c.blk X6.out (fun a => a)); have Y7 := Lib.hid (c.blk Y6.out (fun a => a)); have Z7 := Lib.hid (c.blk Z6.out (fun a => a)); clear c
  have y0 := X7.out.cellv 0 _ rfl; have y1 := X7.out.cellv 1 _ rfl; have y2 := X7.out.cellv 2 _ rfl; have y3 := X7.out.cellv 3 _ rfl
  go_wp2_with fail
  refine (K7.out w7).mono ?_
  rintro e w8 ⟨rfl, c⟩
  have C9 := Lib.hid (C8.out.trans c)
  have X8 := Lib.hid (c.blk X7.out (fun a => a)); have Y8 := Lib.hid (c.blk Y7.out (fun a => a)); have Z8 := Lib.hid (c.blk Z7.out (fun a => a)); clear c y0 y1 y2 y3
  have y0 := X8.out.cellv 0 _ rfl; have y1 := X8.out.cellv 1 _ rfl; have y2 := X8.out.cellv 2 _ rfl; have y3 := X8.out.cellv 3 _ rfl
  go_wp2_with fail
  refine (K8.out w8).mono ?_
  rintro e w9 ⟨rfl, c⟩
  have C10 := Lib.hid (C9.out.trans c)
  have Y9 := Lib.hid (c.blk Y8.out (fun a => a)); have Z9 := Lib.hid (c.blk Z8.out (fun a => a)); clear c y0 y1 y2 y3
  have y0 := Y9.out.cellv 0 _ rfl; have y1 := Y9.out.cellv 1 _ rfl; have y2 := Y9.out.cellv 2 _ rfl; have y3 := Y9.out.cellv 3 _ rfl
  have z0 := Z9.out.cellv 0 _ rfl; have z1 := Z9.out.cellv 1 _ rfl; have z2 := Z9.out.cellv 2 _ rfl; have z3 := Z9.out.cellv 3 _ rfl
  go_wp2_with fail
  go_ret
  exact ⟨rfl, C10.out.below (Nat.le_refl _) (fun _ h => h.elim)⟩
end Go.Proofs.Ytijooajhjcfneaa
