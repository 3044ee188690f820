/-
  One act of the statement PhysPlays, on both memories: answered alike.
-/
import Derived.Test.YteamkchcpmoicaaPair
import Derived.Test.YteamkchcpmoicaaOpenS
import Derived.Test.YteamkchcpmoicaaRefTakes
namespace Go.Proofs.Yteamkchcpmoicaa
open Go.RowKit

/-- after an act: both are alike -/
def Alike (S : Nat → Prop) (w : World) (p r F : Nat) (w' : World) : Prop := ∃ V t, Pair S w' p r F V t V t ∧ Chg (fun k => ¬ S k) w w'

set_option maxRecDepth 100000 in
set_option maxHeartbeats 800000 in
theorem does_1 (S : Nat → Prop) (w : World) (p r F t : Nat) (V : Nat → Nat) (h : Pair S w p r F V t V t) (hF : F ≤ 256) (sz n : Int) (hn : n ≤ 9223372036854775807) (a v : Nat) (ha : a < 18446744073709551616) (hv : v < 18446744073709551616) (s : ByteArray) (hs : s.size ≤ maxLen) :
    Calls Try.prog 37 #[.pointer (some ⟨p, 0, none⟩), .pointer (some ⟨r, 0, none⟩), .agg #[.int .i64 1, .int .i64 sz, .int .i64 n, .int .u64 a, .int .u64 v, .string s]] w fun e w' => e = .returned (.bool true) ∧ Alike S w p r F w' := by
  have hb0 := Pair.box h ((Chg.refl _ w).alloc (.cells #[.int .i64 1, .int .i64 sz, .int .i64 n, .int .u64 a, .int .u64 v, .string s] 47)) (by simp)
  have ek := Blk.new w #[.int .i64 1, .int .i64 sz, .int .i64 n, .int .u64 a, .int .u64 v, .string s] 47
  have hc0 : Chg (fun k => ¬ (S k ∨ k = w.heap.size)) w (w.alloc (.cells #[.int .i64 1, .int .i64 sz, .int .i64 n, .int .u64 a, .int .u64 v, .string s] 47)) := (Chg.refl _ _).alloc _
  have hwk : ∀ k, ¬ (S k ∨ k = w.heap.size) → ¬ S k := fun k h h' => h (.inl h')
  have HWK := Lib.hid hwk
  have x0 := ek.cellv 0 _ rfl; have x1 := ek.cellv 1 _ rfl; have x2 := ek.cellv 2 _ rfl; have x3 := ek.cellv 3 _ rfl; have x4 := ek.cellv 4 _ rfl; have x5 := ek.cellv 5 _ rfl
  have EK := Lib.hid ek; have HB0 := Lib.hid hb0; have HC0 := Lib.hid hc0
  clear h ek hb0 hc0 hwk
  go_enter Try.func37, Try.ntmps37
  have HR := fun W (H : Pair (fun k => S k ∨ k = w.heap.size) W p r F V (tc F a sz t) V t) => Lib.hid (pr_load H hF a ha sz)
  have CL := Lib.hid (pl_load HB0.out hF a ha sz); have CR := Lib.hid HR
  clear HR hn ha hv hs
  generalize (ldV F V a sz : Nat) = y0 at *
  generalize cdL F a sz = y1 at *
  go_wp2_with fail
  refine CL.out.mono ?_
  rintro e w3 ⟨rfl, m3, b3⟩
  generalize hbx : w.heap.size = bx at *
  have HBX := Lib.hid hbx; clear hbx
  generalize hwa : w.alloc _ = wa at *
  clear hwa
  have gb : ∀ W, Chg (fun k => ¬ (S k ∨ k = bx)) wa W → W.cell? ⟨bx, 1, none⟩ = some (.int .i64 sz) ∧ W.cell? ⟨bx, 2, none⟩ = some (.int .i64 n) ∧ W.cell? ⟨bx, 3, none⟩ = some (.int .u64 a) ∧ W.cell? ⟨bx, 4, none⟩ = some (.int .u64 v) ∧ W.cell? ⟨bx, 5, none⟩ = some (.string s) := fun W h =>
    have hb := h.blk EK.out (fun h => h (.inr rfl))
    ⟨hb.cellv 1 _ rfl, hb.cellv 2 _ rfl, hb.cellv 3 _ rfl, hb.cellv 4 _ rfl, hb.cellv 5 _ rfl⟩
  have GB := Lib.hid gb; clear gb
  have M3 := Lib.hid m3; have B3 := Lib.hid b3; clear m3 b3
  obtain ⟨x1, x2, x3, x4, x5⟩ := GB.out _ B3.out
  go_wp2_with fail
  refine (CR.out w3 M3.out).out.mono ?_
  rintro e w4 ⟨rfl, m3, b3⟩
  have M4 := Lib.hid m3; have B4 := Lib.hid (B3.out.trans b3); clear m3 b3
  go_wp2_with fail
  go_ret
  exact ⟨ret_bool (by simp), _, _, M4.out.weak (fun _ h => .inl h), (HC0.out.trans B4.out).mono HWK.out⟩

set_option maxRecDepth 100000 in
set_option maxHeartbeats 800000 in
theorem does_2 (S : Nat → Prop) (w : World) (p r F t : Nat) (V : Nat → Nat) (h : Pair S w p r F V t V t) (hF : F ≤ 256) (sz n : Int) (hn : n ≤ 9223372036854775807) (a v : Nat) (ha : a < 18446744073709551616) (hv : v < 18446744073709551616) (s : ByteArray) (hs : s.size ≤ maxLen) :
    Calls Try.prog 37 #[.pointer (some ⟨p, 0, none⟩), .pointer (some ⟨r, 0, none⟩), .agg #[.int .i64 2, .int .i64 sz, .int .i64 n, .int .u64 a, .int .u64 v, .string s]] w fun e w' => e = .returned (.bool true) ∧ Alike S w p r F w' := by
  have hb0 := Pair.box h ((Chg.refl _ w).alloc (.cells #[.int .i64 2, .int .i64 sz, .int .i64 n, .int .u64 a, .int .u64 v, .string s] 47)) (by simp)
  have ek := Blk.new w #[.int .i64 2, .int .i64 sz, .int .i64 n, .int .u64 a, .int .u64 v, .string s] 47
  have hc0 : Chg (fun k => ¬ (S k ∨ k = w.heap.size)) w (w.alloc (.cells #[.int .i64 2, .int .i64 sz, .int .i64 n, .int .u64 a, .int .u64 v, .string s] 47)) := (Chg.refl _ _).alloc _
  have hwk : ∀ k, ¬ (S k ∨ k = w.heap.size) → ¬ S k := fun k h h' => h (.inl h')
  have HWK := Lib.hid hwk
  have x0 := ek.cellv 0 _ rfl; have x1 := ek.cellv 1 _ rfl; have x2 := ek.cellv 2 _ rfl; have x3 := ek.cellv 3 _ rfl; have x4 := ek.cellv 4 _ rfl; have x5 := ek.cellv 5 _ rfl
  have EK := Lib.hid ek; have HB0 := Lib.hid hb0; have HC0 := Lib.hid hc0
  clear h ek hb0 hc0 hwk
  go_enter Try.func37, Try.ntmps37
  have HR := fun W (H : Pair (fun k => S k ∨ k = w.heap.size) W p r F (stV F V a sz v) (tc F a sz t) V t) => Lib.hid (pr_store H hF a ha sz v hv)
  have CL := Lib.hid (pl_store HB0.out hF a ha sz v hv); have CR := Lib.hid HR
  clear HR hn ha hv hs
  generalize cdL F a sz = y0 at *
  go_wp2_with fail
  refine CL.out.mono ?_
  rintro e w3 ⟨rfl, m3, b3⟩
  generalize hbx : w.heap.size = bx at *
  have HBX := Lib.hid hbx; clear hbx
  generalize hwa : w.alloc _ = wa at *
  clear hwa
  have gb : ∀ W, Chg (fun k => ¬ (S k ∨ k = bx)) wa W → W.cell? ⟨bx, 1, none⟩ = some (.int .i64 sz) ∧ W.cell? ⟨bx, 2, none⟩ = some (.int .i64 n) ∧ W.cell? ⟨bx, 3, none⟩ = some (.int .u64 a) ∧ W.cell? ⟨bx, 4, none⟩ = some (.int .u64 v) ∧ W.cell? ⟨bx, 5, none⟩ = some (.string s) := fun W h =>
    have hb := h.blk EK.out (fun h => h (.inr rfl))
    ⟨hb.cellv 1 _ rfl, hb.cellv 2 _ rfl, hb.cellv 3 _ rfl, hb.cellv 4 _ rfl, hb.cellv 5 _ rfl⟩
  have GB := Lib.hid gb; clear gb
  have M3 := Lib.hid m3; have B3 := Lib.hid b3; clear m3 b3
  obtain ⟨x1, x2, x3, x4, x5⟩ := GB.out _ B3.out
  go_wp2_with fail
  refine (CR.out w3 M3.out).out.mono ?_
  rintro e w4 ⟨rfl, m3, b3⟩
  have M4 := Lib.hid m3; have B4 := Lib.hid (B3.out.trans b3); clear m3 b3
  go_wp2_with fail
  go_ret
  exact ⟨ret_bool (by simp), _, _, M4.out.weak (fun _ h => .inl h), (HC0.out.trans B4.out).mono HWK.out⟩

set_option maxRecDepth 100000 in
set_option maxHeartbeats 800000 in
theorem does_3 (S : Nat → Prop) (w : World) (p r F t : Nat) (V : Nat → Nat) (h : Pair S w p r F V t V t) (hF : F ≤ 256) (sz n : Int) (hn : n ≤ 9223372036854775807) (a v : Nat) (ha : a < 18446744073709551616) (hv : v < 18446744073709551616) (s : ByteArray) (hs : s.size ≤ maxLen) :
    Calls Try.prog 37 #[.pointer (some ⟨p, 0, none⟩), .pointer (some ⟨r, 0, none⟩), .agg #[.int .i64 3, .int .i64 sz, .int .i64 n, .int .u64 a, .int .u64 v, .string s]] w fun e w' => e = .returned (.bool true) ∧ Alike S w p r F w' := by
  have hb0 := Pair.box h ((Chg.refl _ w).alloc (.cells #[.int .i64 3, .int .i64 sz, .int .i64 n, .int .u64 a, .int .u64 v, .string s] 47)) (by simp)
  have ek := Blk.new w #[.int .i64 3, .int .i64 sz, .int .i64 n, .int .u64 a, .int .u64 v, .string s] 47
  have hc0 : Chg (fun k => ¬ (S k ∨ k = w.heap.size)) w (w.alloc (.cells #[.int .i64 3, .int .i64 sz, .int .i64 n, .int .u64 a, .int .u64 v, .string s] 47)) := (Chg.refl _ _).alloc _
  have hwk : ∀ k, ¬ (S k ∨ k = w.heap.size) → ¬ S k := fun k h h' => h (.inl h')
  have HWK := Lib.hid hwk
  have x0 := ek.cellv 0 _ rfl; have x1 := ek.cellv 1 _ rfl; have x2 := ek.cellv 2 _ rfl; have x3 := ek.cellv 3 _ rfl; have x4 := ek.cellv 4 _ rfl; have x5 := ek.cellv 5 _ rfl
  have EK := Lib.hid ek; have HB0 := Lib.hid hb0; have HC0 := Lib.hid hc0
  clear h ek hb0 hc0 hwk
  go_enter Try.func37, Try.ntmps37
  have HR := fun W (H : Pair (fun k => S k ∨ k = w.heap.size) W p r F V t V t) => Lib.hid (pr_get H hF a ha n hn)
  have CL := Lib.hid (pl_get HB0.out hF a ha n hn); have CR := Lib.hid HR
  clear HR hn ha hv hs
  generalize gtS F V a n = y0 at *
  generalize cdG F a n = y1 at *
  go_wp2_with fail
  refine CL.out.mono ?_
  rintro e w3 ⟨rfl, m3, b3⟩
  generalize hbx : w.heap.size = bx at *
  have HBX := Lib.hid hbx; clear hbx
  generalize hwa : w.alloc _ = wa at *
  clear hwa
  have gb : ∀ W, Chg (fun k => ¬ (S k ∨ k = bx)) wa W → W.cell? ⟨bx, 1, none⟩ = some (.int .i64 sz) ∧ W.cell? ⟨bx, 2, none⟩ = some (.int .i64 n) ∧ W.cell? ⟨bx, 3, none⟩ = some (.int .u64 a) ∧ W.cell? ⟨bx, 4, none⟩ = some (.int .u64 v) ∧ W.cell? ⟨bx, 5, none⟩ = some (.string s) := fun W h =>
    have hb := h.blk EK.out (fun h => h (.inr rfl))
    ⟨hb.cellv 1 _ rfl, hb.cellv 2 _ rfl, hb.cellv 3 _ rfl, hb.cellv 4 _ rfl, hb.cellv 5 _ rfl⟩
  have GB := Lib.hid gb; clear gb
  have M3 := Lib.hid m3; have B3 := Lib.hid b3; clear m3 b3
  obtain ⟨x1, x2, x3, x4, x5⟩ := GB.out _ B3.out
  go_wp2_with fail
  refine (CR.out w3 M3.out).out.mono ?_
  rintro e w4 ⟨rfl, m3, b3⟩
  have M4 := Lib.hid m3; have B4 := Lib.hid (B3.out.trans b3); clear m3 b3
  go_wp2_with fail
  go_ret
  exact ⟨ret_bool (by simp), _, _, M4.out.weak (fun _ h => .inl h), (HC0.out.trans B4.out).mono HWK.out⟩

set_option maxRecDepth 100000 in
set_option maxHeartbeats 800000 in
theorem does_4 (S : Nat → Prop) (w : World) (p r F t : Nat) (V : Nat → Nat) (h : Pair S w p r F V t V t) (hF : F ≤ 256) (sz n : Int) (hn : n ≤ 9223372036854775807) (a v : Nat) (ha : a < 18446744073709551616) (hv : v < 18446744073709551616) (s : ByteArray) (hs : s.size ≤ maxLen) :
    Calls Try.prog 37 #[.pointer (some ⟨p, 0, none⟩), .pointer (some ⟨r, 0, none⟩), .agg #[.int .i64 4, .int .i64 sz, .int .i64 n, .int .u64 a, .int .u64 v, .string s]] w fun e w' => e = .returned (.bool true) ∧ Alike S w p r F w' := by
  have hb0 := Pair.box h ((Chg.refl _ w).alloc (.cells #[.int .i64 4, .int .i64 sz, .int .i64 n, .int .u64 a, .int .u64 v, .string s] 47)) (by simp)
  have ek := Blk.new w #[.int .i64 4, .int .i64 sz, .int .i64 n, .int .u64 a, .int .u64 v, .string s] 47
  have hc0 : Chg (fun k => ¬ (S k ∨ k = w.heap.size)) w (w.alloc (.cells #[.int .i64 4, .int .i64 sz, .int .i64 n, .int .u64 a, .int .u64 v, .string s] 47)) := (Chg.refl _ _).alloc _
  have hwk : ∀ k, ¬ (S k ∨ k = w.heap.size) → ¬ S k := fun k h h' => h (.inl h')
  have HWK := Lib.hid hwk
  have x0 := ek.cellv 0 _ rfl; have x1 := ek.cellv 1 _ rfl; have x2 := ek.cellv 2 _ rfl; have x3 := ek.cellv 3 _ rfl; have x4 := ek.cellv 4 _ rfl; have x5 := ek.cellv 5 _ rfl
  have EK := Lib.hid ek; have HB0 := Lib.hid hb0; have HC0 := Lib.hid hc0
  clear h ek hb0 hc0 hwk
  go_enter Try.func37, Try.ntmps37
  have HR := fun W (H : Pair (fun k => S k ∨ k = w.heap.size) W p r F (ptV F V a s) t V t) => Lib.hid (pr_put H hF a ha s hs)
  have CL := Lib.hid (pl_put HB0.out hF a ha s hs); have CR := Lib.hid HR
  clear HR hn ha hv hs
  generalize cdP F a s = y0 at *
  go_wp2_with fail
  refine CL.out.mono ?_
  rintro e w3 ⟨rfl, m3, b3⟩
  generalize hbx : w.heap.size = bx at *
  have HBX := Lib.hid hbx; clear hbx
  generalize hwa : w.alloc _ = wa at *
  clear hwa
  have gb : ∀ W, Chg (fun k => ¬ (S k ∨ k = bx)) wa W → W.cell? ⟨bx, 1, none⟩ = some (.int .i64 sz) ∧ W.cell? ⟨bx, 2, none⟩ = some (.int .i64 n) ∧ W.cell? ⟨bx, 3, none⟩ = some (.int .u64 a) ∧ W.cell? ⟨bx, 4, none⟩ = some (.int .u64 v) ∧ W.cell? ⟨bx, 5, none⟩ = some (.string s) := fun W h =>
    have hb := h.blk EK.out (fun h => h (.inr rfl))
    ⟨hb.cellv 1 _ rfl, hb.cellv 2 _ rfl, hb.cellv 3 _ rfl, hb.cellv 4 _ rfl, hb.cellv 5 _ rfl⟩
  have GB := Lib.hid gb; clear gb
  have M3 := Lib.hid m3; have B3 := Lib.hid b3; clear m3 b3
  obtain ⟨x1, x2, x3, x4, x5⟩ := GB.out _ B3.out
  go_wp2_with fail
  refine (CR.out w3 M3.out).out.mono ?_
  rintro e w4 ⟨rfl, m3, b3⟩
  have M4 := Lib.hid m3; have B4 := Lib.hid (B3.out.trans b3); clear m3 b3
  go_wp2_with fail
  go_ret
  exact ⟨ret_bool (by simp), _, _, M4.out.weak (fun _ h => .inl h), (HC0.out.trans B4.out).mono HWK.out⟩

set_option maxRecDepth 100000 in
set_option maxHeartbeats 800000 in
theorem does_5 (S : Nat → Prop) (w : World) (p r F t : Nat) (V : Nat → Nat) (h : Pair S w p r F V t V t) (hF : F ≤ 256) (sz n : Int) (hn : n ≤ 9223372036854775807) (a v : Nat) (ha : a < 18446744073709551616) (hv : v < 18446744073709551616) (s : ByteArray) (hs : s.size ≤ maxLen) :
    Calls Try.prog 37 #[.pointer (some ⟨p, 0, none⟩), .pointer (some ⟨r, 0, none⟩), .agg #[.int .i64 5, .int .i64 sz, .int .i64 n, .int .u64 a, .int .u64 v, .string s]] w fun e w' => e = .returned (.bool true) ∧ Alike S w p r F w' := by
  have hb0 := Pair.box h ((Chg.refl _ w).alloc (.cells #[.int .i64 5, .int .i64 sz, .int .i64 n, .int .u64 a, .int .u64 v, .string s] 47)) (by simp)
  have ek := Blk.new w #[.int .i64 5, .int .i64 sz, .int .i64 n, .int .u64 a, .int .u64 v, .string s] 47
  have hc0 : Chg (fun k => ¬ (S k ∨ k = w.heap.size)) w (w.alloc (.cells #[.int .i64 5, .int .i64 sz, .int .i64 n, .int .u64 a, .int .u64 v, .string s] 47)) := (Chg.refl _ _).alloc _
  have hwk : ∀ k, ¬ (S k ∨ k = w.heap.size) → ¬ S k := fun k h h' => h (.inl h')
  have HWK := Lib.hid hwk
  have x0 := ek.cellv 0 _ rfl; have x1 := ek.cellv 1 _ rfl; have x2 := ek.cellv 2 _ rfl; have x3 := ek.cellv 3 _ rfl; have x4 := ek.cellv 4 _ rfl; have x5 := ek.cellv 5 _ rfl
  have EK := Lib.hid ek; have HB0 := Lib.hid hb0; have HC0 := Lib.hid hc0
  clear h ek hb0 hc0 hwk
  go_enter Try.func37, Try.ntmps37
  have HR := fun W (H : Pair (fun k => S k ∨ k = w.heap.size) W p r F (clV F V n) t V t) => Lib.hid (pr_clear H hF n)
  have CL := Lib.hid (pl_clear HB0.out hF n); have CR := Lib.hid HR
  clear HR hn ha hv hs
  generalize cdF F n = y0 at *
  go_wp2_with fail
  refine CL.out.mono ?_
  rintro e w3 ⟨rfl, m3, b3⟩
  generalize hbx : w.heap.size = bx at *
  have HBX := Lib.hid hbx; clear hbx
  generalize hwa : w.alloc _ = wa at *
  clear hwa
  have gb : ∀ W, Chg (fun k => ¬ (S k ∨ k = bx)) wa W → W.cell? ⟨bx, 1, none⟩ = some (.int .i64 sz) ∧ W.cell? ⟨bx, 2, none⟩ = some (.int .i64 n) ∧ W.cell? ⟨bx, 3, none⟩ = some (.int .u64 a) ∧ W.cell? ⟨bx, 4, none⟩ = some (.int .u64 v) ∧ W.cell? ⟨bx, 5, none⟩ = some (.string s) := fun W h =>
    have hb := h.blk EK.out (fun h => h (.inr rfl))
    ⟨hb.cellv 1 _ rfl, hb.cellv 2 _ rfl, hb.cellv 3 _ rfl, hb.cellv 4 _ rfl, hb.cellv 5 _ rfl⟩
  have GB := Lib.hid gb; clear gb
  have M3 := Lib.hid m3; have B3 := Lib.hid b3; clear m3 b3
  obtain ⟨x1, x2, x3, x4, x5⟩ := GB.out _ B3.out
  go_wp2_with fail
  refine (CR.out w3 M3.out).out.mono ?_
  rintro e w4 ⟨rfl, m3, b3⟩
  have M4 := Lib.hid m3; have B4 := Lib.hid (B3.out.trans b3); clear m3 b3
  go_wp2_with fail
  go_ret
  exact ⟨ret_bool (by simp), _, _, M4.out.weak (fun _ h => .inl h), (HC0.out.trans B4.out).mono HWK.out⟩

set_option maxRecDepth 100000 in
set_option maxHeartbeats 800000 in
theorem does_6 (S : Nat → Prop) (w : World) (p r F t : Nat) (V : Nat → Nat) (h : Pair S w p r F V t V t) (hF : F ≤ 256) (sz n : Int) (hn : n ≤ 9223372036854775807) (a v : Nat) (ha : a < 18446744073709551616) (hv : v < 18446744073709551616) (s : ByteArray) (hs : s.size ≤ maxLen) (hsz : 0 ≤ sz) :
    Calls Try.prog 37 #[.pointer (some ⟨p, 0, none⟩), .pointer (some ⟨r, 0, none⟩), .agg #[.int .i64 6, .int .i64 sz, .int .i64 n, .int .u64 a, .int .u64 v, .string s]] w fun e w' => e = .returned (.bool true) ∧ Alike S w p r F w' := by
  have dsz : decide (sz < (0 : Int)) = false := decide_eq_false (by omega)
  have hb0 := Pair.box h ((Chg.refl _ w).alloc (.cells #[.int .i64 6, .int .i64 sz, .int .i64 n, .int .u64 a, .int .u64 v, .string s] 47)) (by simp)
  have ek := Blk.new w #[.int .i64 6, .int .i64 sz, .int .i64 n, .int .u64 a, .int .u64 v, .string s] 47
  have hc0 : Chg (fun k => ¬ (S k ∨ k = w.heap.size)) w (w.alloc (.cells #[.int .i64 6, .int .i64 sz, .int .i64 n, .int .u64 a, .int .u64 v, .string s] 47)) := (Chg.refl _ _).alloc _
  have hwk : ∀ k, ¬ (S k ∨ k = w.heap.size) → ¬ S k := fun k h h' => h (.inl h')
  have HWK := Lib.hid hwk
  have x0 := ek.cellv 0 _ rfl; have x1 := ek.cellv 1 _ rfl; have x2 := ek.cellv 2 _ rfl; have x3 := ek.cellv 3 _ rfl; have x4 := ek.cellv 4 _ rfl; have x5 := ek.cellv 5 _ rfl
  have EK := Lib.hid ek; have HB0 := Lib.hid hb0; have HC0 := Lib.hid hc0
  clear h ek hb0 hc0 hwk
  go_enter Try.func37, Try.ntmps37
  have HR := fun W (H : Pair (fun k => S k ∨ k = w.heap.size) W p r F (cpV F V n sz) t V t) => Lib.hid (pr_copy H hF n sz hsz)
  have CL := Lib.hid (pl_copy HB0.out hF n sz); have CR := Lib.hid HR
  clear HR hn ha hv hs
  generalize cdC F n sz = y0 at *
  go_wp2_with fail
  refine CL.out.mono ?_
  rintro e w3 ⟨rfl, m3, b3⟩
  generalize hbx : w.heap.size = bx at *
  have HBX := Lib.hid hbx; clear hbx
  generalize hwa : w.alloc _ = wa at *
  clear hwa
  have gb : ∀ W, Chg (fun k => ¬ (S k ∨ k = bx)) wa W → W.cell? ⟨bx, 1, none⟩ = some (.int .i64 sz) ∧ W.cell? ⟨bx, 2, none⟩ = some (.int .i64 n) ∧ W.cell? ⟨bx, 3, none⟩ = some (.int .u64 a) ∧ W.cell? ⟨bx, 4, none⟩ = some (.int .u64 v) ∧ W.cell? ⟨bx, 5, none⟩ = some (.string s) := fun W h =>
    have hb := h.blk EK.out (fun h => h (.inr rfl))
    ⟨hb.cellv 1 _ rfl, hb.cellv 2 _ rfl, hb.cellv 3 _ rfl, hb.cellv 4 _ rfl, hb.cellv 5 _ rfl⟩
  have GB := Lib.hid gb; clear gb
  have M3 := Lib.hid m3; have B3 := Lib.hid b3; clear m3 b3
  obtain ⟨x1, x2, x3, x4, x5⟩ := GB.out _ B3.out
  go_wp2_with fail
  refine (CR.out w3 M3.out).out.mono ?_
  rintro e w4 ⟨rfl, m3, b3⟩
  have M4 := Lib.hid m3; have B4 := Lib.hid (B3.out.trans b3); clear m3 b3
  go_wp2_with fail
  go_ret
  exact ⟨ret_bool (by simp), _, _, M4.out.weak (fun _ h => .inl h), (HC0.out.trans B4.out).mono HWK.out⟩

set_option maxRecDepth 100000 in
set_option maxHeartbeats 800000 in
theorem does_6n (S : Nat → Prop) (w : World) (p r F t : Nat) (V : Nat → Nat) (h : Pair S w p r F V t V t) (hF : F ≤ 256) (sz n : Int) (hn : n ≤ 9223372036854775807) (a v : Nat) (ha : a < 18446744073709551616) (hv : v < 18446744073709551616) (s : ByteArray) (hs : s.size ≤ maxLen) (hsz : sz < 0) :
    Calls Try.prog 37 #[.pointer (some ⟨p, 0, none⟩), .pointer (some ⟨r, 0, none⟩), .agg #[.int .i64 6, .int .i64 sz, .int .i64 n, .int .u64 a, .int .u64 v, .string s]] w fun e w' => e = .returned (.bool true) ∧ Alike S w p r F w' := by
  have dsz : decide (sz < (0 : Int)) = true := decide_eq_true hsz
  have hcc : cdC F n sz = 3 := by unfold cdC; rw [if_neg (by omega)]
  have hcv : cpV F V n sz = V := by unfold cpV; rw [hcc]; simp
  have hb0 := Pair.box h ((Chg.refl _ w).alloc (.cells #[.int .i64 6, .int .i64 sz, .int .i64 n, .int .u64 a, .int .u64 v, .string s] 47)) (by simp)
  have ek := Blk.new w #[.int .i64 6, .int .i64 sz, .int .i64 n, .int .u64 a, .int .u64 v, .string s] 47
  have hc0 : Chg (fun k => ¬ (S k ∨ k = w.heap.size)) w (w.alloc (.cells #[.int .i64 6, .int .i64 sz, .int .i64 n, .int .u64 a, .int .u64 v, .string s] 47)) := (Chg.refl _ _).alloc _
  have hwk : ∀ k, ¬ (S k ∨ k = w.heap.size) → ¬ S k := fun k h h' => h (.inl h')
  have HWK := Lib.hid hwk
  have x0 := ek.cellv 0 _ rfl; have x1 := ek.cellv 1 _ rfl; have x2 := ek.cellv 2 _ rfl; have x3 := ek.cellv 3 _ rfl; have x4 := ek.cellv 4 _ rfl; have x5 := ek.cellv 5 _ rfl
  have EK := Lib.hid ek; have HB0 := Lib.hid hb0; have HC0 := Lib.hid hc0
  clear h ek hb0 hc0 hwk
  go_enter Try.func37, Try.ntmps37
  have CL0 := pl_copy HB0.out hF n sz
  rw [hcc, hcv] at CL0
  have CL := Lib.hid CL0
  clear CL0 hcc hcv hn ha hv hs
  go_wp2_with fail
  refine CL.out.mono ?_
  rintro e w3 ⟨rfl, m3, b3⟩
  have M3 := Lib.hid m3; have B3 := Lib.hid b3; clear m3 b3
  go_wp2_with fail
  go_ret
  exact ⟨rfl, _, _, M3.out.weak (fun _ h => .inl h), (HC0.out.trans B3.out).mono HWK.out⟩

set_option maxRecDepth 100000 in
set_option maxHeartbeats 800000 in
theorem does_0 (S : Nat → Prop) (w : World) (p r F t : Nat) (V : Nat → Nat) (h : Pair S w p r F V t V t) (hF : F ≤ 256) (sz n : Int) (hn : n ≤ 9223372036854775807) (a v : Nat) (ha : a < 18446744073709551616) (hv : v < 18446744073709551616) (s : ByteArray) (hs : s.size ≤ maxLen) (kd : Int) (hk : kd ≠ 1 ∧ kd ≠ 2 ∧ kd ≠ 3 ∧ kd ≠ 4 ∧ kd ≠ 5 ∧ kd ≠ 6) :
    Calls Try.prog 37 #[.pointer (some ⟨p, 0, none⟩), .pointer (some ⟨r, 0, none⟩), .agg #[.int .i64 kd, .int .i64 sz, .int .i64 n, .int .u64 a, .int .u64 v, .string s]] w fun e w' => e = .returned (.bool true) ∧ Alike S w p r F w' := by
  have q1 : (kd == 1) = false := by simpa using hk.1
  have q2 : (kd == 2) = false := by simpa using hk.2.1
  have q3 : (kd == 3) = false := by simpa using hk.2.2.1
  have q4 : (kd == 4) = false := by simpa using hk.2.2.2.1
  have q5 : (kd == 5) = false := by simpa using hk.2.2.2.2.1
  have q6 : (kd == 6) = false := by simpa using hk.2.2.2.2.2
  have hb0 := Pair.box h ((Chg.refl _ w).alloc (.cells #[.int .i64 kd, .int .i64 sz, .int .i64 n, .int .u64 a, .int .u64 v, .string s] 47)) (by simp)
  have ek := Blk.new w #[.int .i64 kd, .int .i64 sz, .int .i64 n, .int .u64 a, .int .u64 v, .string s] 47
  have hc0 : Chg (fun k => ¬ (S k ∨ k = w.heap.size)) w (w.alloc (.cells #[.int .i64 kd, .int .i64 sz, .int .i64 n, .int .u64 a, .int .u64 v, .string s] 47)) := (Chg.refl _ _).alloc _
  have hwk : ∀ k, ¬ (S k ∨ k = w.heap.size) → ¬ S k := fun k h h' => h (.inl h')
  have HWK := Lib.hid hwk
  have x0 := ek.cellv 0 _ rfl; have x1 := ek.cellv 1 _ rfl; have x2 := ek.cellv 2 _ rfl; have x3 := ek.cellv 3 _ rfl; have x4 := ek.cellv 4 _ rfl; have x5 := ek.cellv 5 _ rfl
  have EK := Lib.hid ek; have HB0 := Lib.hid hb0; have HC0 := Lib.hid hc0
  clear h ek hb0 hc0 hwk
  go_enter Try.func37, Try.ntmps37
  clear hn ha hv hs hF hk
  go_wp2_with fail
  go_ret
  exact ⟨rfl, _, _, HB0.out.weak (fun _ h => .inl h), HC0.out.mono HWK.out⟩

theorem does_all (S : Nat → Prop) (w : World) (p r F t : Nat) (V : Nat → Nat) (h : Pair S w p r F V t V t) (hF : F ≤ 256) (sz n : Int) (hn : n ≤ 9223372036854775807) (a v : Nat) (ha : a < 18446744073709551616) (hv : v < 18446744073709551616) (s : ByteArray) (hs : s.size ≤ maxLen) (kd : Int) :
    Calls Try.prog 37 #[.pointer (some ⟨p, 0, none⟩), .pointer (some ⟨r, 0, none⟩), .agg #[.int .i64 kd, .int .i64 sz, .int .i64 n, .int .u64 a, .int .u64 v, .string s]] w fun e w' => e = .returned (.bool true) ∧ Alike S w p r F w' := by
  by_cases h1 : kd = 1
  · subst h1; exact does_1 S w p r F t V h hF sz n hn a v ha hv s hs
  by_cases h2 : kd = 2
  · subst h2; exact does_2 S w p r F t V h hF sz n hn a v ha hv s hs
  by_cases h3 : kd = 3
  · subst h3; exact does_3 S w p r F t V h hF sz n hn a v ha hv s hs
  by_cases h4 : kd = 4
  · subst h4; exact does_4 S w p r F t V h hF sz n hn a v ha hv s hs
  by_cases h5 : kd = 5
  · subst h5; exact does_5 S w p r F t V h hF sz n hn a v ha hv s hs
  by_cases h6 : kd = 6
  · subst h6
    by_cases hz : sz < 0
    · exact does_6n S w p r F t V h hF sz n hn a v ha hv s hs hz
    · exact does_6 S w p r F t V h hF sz n hn a v ha hv s hs (by omega)
  exact does_0 S w p r F t V h hF sz n hn a v ha hv s hs kd ⟨h1, h2, h3, h4, h5, h6⟩
end Go.Proofs.Yteamkchcpmoicaa
