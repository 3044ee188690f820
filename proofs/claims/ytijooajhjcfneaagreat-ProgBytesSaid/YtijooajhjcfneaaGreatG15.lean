/-
  Several texts in one: RyWalk.
-/
import Derived.Test.YtijooajhjcfneaaGreatG14
namespace Go.Proofs.YtijooajhjcfneaaGreat
open Go.RowKit

theorem tbLeaf_mod8 {V : Nat → Nat} {F root at_ x : Nat} (h : tbLeaf V F root at_ = some x) : x % 8 = 0 := by
  unfold tbLeaf at h
  rw [Option.bind_eq_some_iff] at h
  obtain ⟨a, ha, h⟩ := h
  rw [Option.map_eq_some_iff] at h
  obtain ⟨b, hb, rfl⟩ := h
  clear ha hb
  generalize at_ / 256 % 32 = k
  omega

theorem hx_div2 (y h : Nat) (hh : h = y / 2) (hy : y < 18446744073709551616) : IntKind.u64.wrap ((y : Int).tdiv 2) = (h : Int) ∧ IntKind.u64.wrap ((y : Int) / 2) = (h : Int) := by
  subst hh
  rw [Int.tdiv_eq_ediv_of_nonneg (by omega)]
  refine ⟨?_, ?_⟩ <;> rw [u64_wrap] <;> omega
theorem hx_div4 (y h : Nat) (hh : h = y / 4) (hy : y < 18446744073709551616) : IntKind.u64.wrap ((y : Int).tdiv 4) = (h : Int) ∧ IntKind.u64.wrap ((y : Int) / 4) = (h : Int) := by
  subst hh
  rw [Int.tdiv_eq_ediv_of_nonneg (by omega)]
  refine ⟨?_, ?_⟩ <;> rw [u64_wrap] <;> omega
theorem hx_div8 (y h : Nat) (hh : h = y / 8) (hy : y < 18446744073709551616) : IntKind.u64.wrap ((y : Int).tdiv 8) = (h : Int) ∧ IntKind.u64.wrap ((y : Int) / 8) = (h : Int) := by
  subst hh
  rw [Int.tdiv_eq_ediv_of_nonneg (by omega)]
  refine ⟨?_, ?_⟩ <;> rw [u64_wrap] <;> omega
theorem hx_div16 (y h : Nat) (hh : h = y / 16) (hy : y < 18446744073709551616) : IntKind.u64.wrap ((y : Int).tdiv 16) = (h : Int) ∧ IntKind.u64.wrap ((y : Int) / 16) = (h : Int) := by
  subst hh
  rw [Int.tdiv_eq_ediv_of_nonneg (by omega)]
  refine ⟨?_, ?_⟩ <;> rw [u64_wrap] <;> omega
theorem cell_lt {w : World} {a : Addr} {v : Value} (h : w.cell? a = some v) : a.block < w.heap.size := by
  refine Classical.byContradiction fun hn => ?_
  have e : w.heap[a.block]? = none := by simp; omega
  simp [World.cell?, e] at h
theorem hx_frames (F : Nat) (hF : F ≤ 256) : ((F : Int) * 256).tdiv 256 = (F : Int) ∧ wrap64 (F : Int) = (F : Int) ∧ IntKind.u64.wrap (F : Int) = (F : Int) := by
  refine ⟨Int.mul_tdiv_cancel _ (by decide), ?_, ?_⟩
  · unfold wrap64; omega
  · rw [u64_wrap]; omega
theorem hx_place (x tb kk : Nat) (h1 : tb = x / 256) (h2 : kk = x % 256 / 8) (hx : x < 65536) : IntKind.u64.wrap ((x : Int) / 256) = (tb : Int) ∧ (x : Int) % 256 / 8 = (kk : Int) := by
  subst h1 h2
  refine ⟨?_, by omega⟩
  rw [u64_wrap]; omega
theorem hx_sum (f at_ : Nat) (hf : f < 256) : IntKind.u64.wrap ((f : Int) * 256) = (f : Int) * 256 ∧ IntKind.u64.wrap ((f : Int) * 256 + (at_ : Int) % 256) = (f : Int) * 256 + (at_ : Int) % 256 ∧ ((f * 256 + at_ % 256 : Nat) : Int) = (f : Int) * 256 + (at_ : Int) % 256 := by
  refine ⟨?_, ?_, by omega⟩ <;> rw [u64_wrap] <;> omega
theorem hx_mod (h z : Nat) (e : h % 2 = z) : (h : Int) % 2 = (z : Int) ∧ (h : Int).tmod 2 = (z : Int) := by
  rw [Int.tmod_eq_emod_of_nonneg (by omega)]
  omega

set_option maxRecDepth 100000 in
theorem rwalk_root (S : Nat → Prop) (w : World) (r F : Nat) (U : Nat → Nat) (h : RX S w r F U) (hF : F ≤ 256) (root : Int) (hr : root < 0 ∨ (F : Int) ≤ root) (at_ acc : Int) :
    Calls Tryz.prog 37 #[.pointer (some ⟨r, 0, none⟩), .int .i64 root, .int .u64 at_, .int .i64 acc] w fun e w' => e = .returned (errV 1) ∧ w = w' := by
  have HR := rw_root S w r F U h hF root
  rw [decide_eq_false (show ¬ (0 ≤ root ∧ root < (F : Int)) by omega)] at HR
  have HR := Lib.hid HR
  clear h hr
  unfold errV
  go_enter Tryz.func37, Tryz.ntmps37
  go_wp2_with fail
  refine HR.out.mono ?_
  rintro e w' ⟨rfl, rfl⟩
  go_wp2_with fail
  go_ret2
  exact ⟨rfl, rfl⟩
set_option maxRecDepth 100000 in
theorem rwalk_acc (S : Nat → Prop) (w : World) (r F : Nat) (U : Nat → Nat) (h : RX S w r F U) (hF : F ≤ 256) (root : Nat) (hr : root < F) (at_ acc : Int) (ha : acc < 1 ∨ 3 < acc) :
    Calls Tryz.prog 37 #[.pointer (some ⟨r, 0, none⟩), .int .i64 root, .int .u64 at_, .int .i64 acc] w fun e w' => e = .returned (errV 1) ∧ w = w' := by
  have HR := rw_root S w r F U h hF root
  rw [decide_eq_true (show (0 : Int) ≤ root ∧ (root : Int) < (F : Int) by omega)] at HR
  have HR := Lib.hid HR
  clear h hr
  unfold errV
  by_cases h1 : acc < 1
  · have d1 : decide (acc < 1) = true := decide_eq_true h1
    clear ha
    go_enter Tryz.func37, Tryz.ntmps37
    go_wp2_with fail
    refine HR.out.mono ?_
    rintro e w' ⟨rfl, rfl⟩
    go_wp2_with fail
    go_ret2
    exact ⟨rfl, rfl⟩
  · have h2 : 3 < acc := by omega
    have d1 : decide (acc < 1) = false := decide_eq_false h1
    have d2 : decide (3 < acc) = true := decide_eq_true h2
    clear ha
    go_enter Tryz.func37, Tryz.ntmps37
    go_wp2_with fail
    refine HR.out.mono ?_
    rintro e w' ⟨rfl, rfl⟩
    go_wp2_with fail
    go_ret2
    exact ⟨rfl, rfl⟩

set_option maxRecDepth 100000 in
theorem rwalk_beyond1 (S : Nat → Prop) (w : World) (r F : Nat) (U : Nat → Nat) (h : RX S w r F U) (hF : F ≤ 256) (root : Nat) (hr : root < F) (at_ : Nat) (ha : 8388608 ≤ at_) :
    Calls Tryz.prog 37 #[.pointer (some ⟨r, 0, none⟩), .int .i64 root, .int .u64 at_, .int .i64 1] w fun e w' => e = .returned (errV 3) ∧ w = w' := by
  have HR := rw_root S w r F U h hF root
  rw [decide_eq_true (show (0 : Int) ≤ root ∧ (root : Int) < (F : Int) by omega)] at HR
  have HR := Lib.hid HR
  have LF := rleaf_beyond S w r F U h hF root hr at_ ha
  unfold errV at LF ⊢
  have LF := Lib.hid LF
  clear h hr ha
  go_enter Tryz.func37, Tryz.ntmps37
  go_wp2_with fail
  refine HR.out.mono ?_
  rintro e w' ⟨rfl, rfl⟩
  go_wp2_with fail
  refine LF.out.mono ?_
  rintro e w' ⟨rfl, rfl⟩
  go_wp2_with fail
  go_ret2
  exact ⟨rfl, rfl⟩
set_option maxRecDepth 100000 in
theorem rwalk_none1 (S : Nat → Prop) (w : World) (r F : Nat) (U : Nat → Nat) (h : RX S w r F U) (hF : F ≤ 256) (root : Nat) (hr : root < F) (at_ : Nat) (ha : at_ < 8388608) (hl : tbLeaf U F root at_ = none) :
    Calls Tryz.prog 37 #[.pointer (some ⟨r, 0, none⟩), .int .i64 root, .int .u64 at_, .int .i64 1] w (StepR S w r F U (errV 3)) := by
  have HR := rw_root S w r F U h hF root
  rw [decide_eq_true (show (0 : Int) ≤ root ∧ (root : Int) < (F : Int) by omega)] at HR
  have HR := Lib.hid HR
  have LF := rleaf_in S w r F U h hF root hr at_ ha
  rw [hl] at LF
  simp only [lfVal] at LF
  unfold errV
  have LF := Lib.hid LF
  clear h hr ha hl
  go_enter Tryz.func37, Tryz.ntmps37
  go_wp2_with fail
  refine HR.out.mono ?_
  rintro e w' ⟨rfl, rfl⟩
  go_wp2_with fail
  refine LF.out.mono ?_
  rintro e w4 ⟨rfl, m4, c4⟩
  have M4 := Lib.hid (And.intro m4 c4); clear m4 c4
  go_wp2_with fail
  go_ret2
  exact ⟨rfl, M4.out⟩

set_option maxRecDepth 100000 in
set_option maxHeartbeats 1600000 in
theorem rwalk_a1 (S : Nat → Prop) (w : World) (r F : Nat) (U : Nat → Nat) (h : RX S w r F U) (hF : F ≤ 256) (root : Nat) (hr : root < F) (at_ : Nat) (x y : Nat) (hx : x + 8 ≤ F * 256) (hx8 : x % 8 = 0) (hy : entV U x = y)
    (LF : Calls Tryz.prog 67 #[.pointer (some ⟨r, 0, none⟩), .int .i64 root, .int .u64 at_] w (StepR S w r F U (.tuple #[.int .u64 (x : Nat), .int .i64 0]))) (e1 : y % 2 = 0) :
    Calls Tryz.prog 37 #[.pointer (some ⟨r, 0, none⟩), .int .i64 root, .int .u64 at_, .int .i64 1] w (StepR S w r F U (errV 3)) := by
  have HR := rw_root S w r F U h hF root
  rw [decide_eq_true (show (0 : Int) ≤ root ∧ (root : Int) < (F : Int) by omega)] at HR
  have HR := Lib.hid HR
  obtain ⟨tb, htb⟩ : ∃ tb, tb = x / 256 := ⟨_, rfl⟩
  obtain ⟨kk, hkk⟩ : ∃ kk, kk = x % 256 / 8 := ⟨_, rfl⟩
  have hxx : tb * 256 + 8 * kk = x := by omega
  have WD := fun W (H : RX S W r F U) => rw_word S W r F U H hF tb kk (by omega) (by omega)
  rw [hxx, hy] at WD
  have hyl := entV_lt U x
  rw [hy] at hyl
  obtain ⟨g1, g2⟩ := hx_place x tb kk htb hkk (by omega)
  have WD := fun W (H : RX S W r F U) => (Eq.mpr (congrArg (fun a => Calls Tryz.prog 68 a W _) (by rw [g1, g2])) (WD W H) : Calls Tryz.prog 68 #[.pointer (some ⟨r, 0, none⟩), .int .u64 (IntKind.u64.wrap ((x : Int) / 256)), .int .i64 ((x : Int) % 256 / 8)] W _)
  have FY := fun W => rw_frame W y hyl
  obtain ⟨f, hf⟩ : ∃ f, f = y / 1024 := ⟨_, rfl⟩
  rw [← hf] at FY
  obtain ⟨h16, hh16⟩ : ∃ h16, h16 = y / 16 := ⟨_, rfl⟩
  obtain ⟨hb, hhb⟩ : ∃ hb, hb = y / 2 := ⟨_, rfl⟩
  obtain ⟨a1', a1⟩ := hx_div16 y h16 hh16 hyl
  obtain ⟨a2', a2⟩ := hx_div2 y hb hhb hyl
  obtain ⟨q0, q1, qF⟩ := hx_frames F hF
  clear htb hkk hx hx8 hxx g1 g2
  obtain ⟨k1, k1t⟩ := hx_mod y _ e1
  unfold errV
  have LF := Lib.hid LF; have WD := Lib.hid WD; have FY := Lib.hid FY
  clear h hr hy hyl hf hh16 hhb e1
  go_enter Tryz.func37, Tryz.ntmps37
  go_wp2_with fail
  refine HR.out.mono ?_
  rintro e w' ⟨rfl, rfl⟩
  go_wp2_with fail
  refine LF.out.mono ?_
  rintro e w4 ⟨rfl, m4, c4⟩
  have M4 := Lib.hid (And.intro m4 c4); clear m4 c4
  go_wp2_with fail
  refine (WD.out w4 M4.out.1).mono ?_
  rintro e w5 ⟨rfl, m5, c5⟩
  obtain ⟨g, _, _, c0, _⟩ := m5.fields
  have M5 := Lib.hid (And.intro m5 (M4.out.2.trans c5)); clear m5 c5
  generalize IntKind.u64.wrap ((x : Int) / 256) = X1 at *
  generalize (x : Int) % 256 / 8 = X2 at *
  generalize (x : Int) % 256 = X3 at *
  have N5 := Lib.hid ((Chg.refl (fun _ => False) w5).alloc (.cells #[.int .u64 2, .int .u64 4, .int .u64 8] 26))
  have c1 : (w5.alloc (.cells #[.int .u64 2, .int .u64 4, .int .u64 8] 26)).cell? ⟨r, 0, none⟩ = some (.slice (some ⟨g, 0, none⟩) (F * 256) (F * 256)) := by rw [N5.out.cell (cell_lt c0) (fun h => h)]; exact c0
  go_wp2_with fail
  go_quiet (fail)
  go_wp2_with fail
  go_ret2
  exact ⟨rfl, (M5.out.1.nothing N5.out).nothing (drawn_chg ⟨_, rfl⟩), M5.out.2.trans (N5.out.mono (fun _ h => h.elim)) |>.drewN _⟩

set_option maxRecDepth 100000 in
set_option maxHeartbeats 1600000 in
theorem rwalk_b1 (S : Nat → Prop) (w : World) (r F : Nat) (U : Nat → Nat) (h : RX S w r F U) (hF : F ≤ 256) (root : Nat) (hr : root < F) (at_ : Nat) (x y : Nat) (hx : x + 8 ≤ F * 256) (hx8 : x % 8 = 0) (hy : entV U x = y)
    (LF : Calls Tryz.prog 67 #[.pointer (some ⟨r, 0, none⟩), .int .i64 root, .int .u64 at_] w (StepR S w r F U (.tuple #[.int .u64 (x : Nat), .int .i64 0]))) (e1 : y % 2 = 1) (e2 : y / 16 % 2 = 0) :
    Calls Tryz.prog 37 #[.pointer (some ⟨r, 0, none⟩), .int .i64 root, .int .u64 at_, .int .i64 1] w (StepR S w r F U (errV 3)) := by
  have HR := rw_root S w r F U h hF root
  rw [decide_eq_true (show (0 : Int) ≤ root ∧ (root : Int) < (F : Int) by omega)] at HR
  have HR := Lib.hid HR
  obtain ⟨tb, htb⟩ : ∃ tb, tb = x / 256 := ⟨_, rfl⟩
  obtain ⟨kk, hkk⟩ : ∃ kk, kk = x % 256 / 8 := ⟨_, rfl⟩
  have hxx : tb * 256 + 8 * kk = x := by omega
  have WD := fun W (H : RX S W r F U) => rw_word S W r F U H hF tb kk (by omega) (by omega)
  rw [hxx, hy] at WD
  have hyl := entV_lt U x
  rw [hy] at hyl
  obtain ⟨g1, g2⟩ := hx_place x tb kk htb hkk (by omega)
  have WD := fun W (H : RX S W r F U) => (Eq.mpr (congrArg (fun a => Calls Tryz.prog 68 a W _) (by rw [g1, g2])) (WD W H) : Calls Tryz.prog 68 #[.pointer (some ⟨r, 0, none⟩), .int .u64 (IntKind.u64.wrap ((x : Int) / 256)), .int .i64 ((x : Int) % 256 / 8)] W _)
  have FY := fun W => rw_frame W y hyl
  obtain ⟨f, hf⟩ : ∃ f, f = y / 1024 := ⟨_, rfl⟩
  rw [← hf] at FY
  obtain ⟨h16, hh16⟩ : ∃ h16, h16 = y / 16 := ⟨_, rfl⟩
  obtain ⟨hb, hhb⟩ : ∃ hb, hb = y / 2 := ⟨_, rfl⟩
  obtain ⟨a1', a1⟩ := hx_div16 y h16 hh16 hyl
  obtain ⟨a2', a2⟩ := hx_div2 y hb hhb hyl
  obtain ⟨q0, q1, qF⟩ := hx_frames F hF
  clear htb hkk hx hx8 hxx g1 g2
  obtain ⟨k1, k1t⟩ := hx_mod y _ e1
  have k2n : h16 % 2 = 0 := by rw [hh16]; exact e2
  obtain ⟨k2, k2t⟩ := hx_mod h16 _ k2n
  clear k2n
  unfold errV
  have LF := Lib.hid LF; have WD := Lib.hid WD; have FY := Lib.hid FY
  clear h hr hy hyl hf hh16 hhb e1 e2
  go_enter Tryz.func37, Tryz.ntmps37
  go_wp2_with fail
  refine HR.out.mono ?_
  rintro e w' ⟨rfl, rfl⟩
  go_wp2_with fail
  refine LF.out.mono ?_
  rintro e w4 ⟨rfl, m4, c4⟩
  have M4 := Lib.hid (And.intro m4 c4); clear m4 c4
  go_wp2_with fail
  refine (WD.out w4 M4.out.1).mono ?_
  rintro e w5 ⟨rfl, m5, c5⟩
  obtain ⟨g, _, _, c0, _⟩ := m5.fields
  have M5 := Lib.hid (And.intro m5 (M4.out.2.trans c5)); clear m5 c5
  generalize IntKind.u64.wrap ((x : Int) / 256) = X1 at *
  generalize (x : Int) % 256 / 8 = X2 at *
  generalize (x : Int) % 256 = X3 at *
  have N5 := Lib.hid ((Chg.refl (fun _ => False) w5).alloc (.cells #[.int .u64 2, .int .u64 4, .int .u64 8] 26))
  have c1 : (w5.alloc (.cells #[.int .u64 2, .int .u64 4, .int .u64 8] 26)).cell? ⟨r, 0, none⟩ = some (.slice (some ⟨g, 0, none⟩) (F * 256) (F * 256)) := by rw [N5.out.cell (cell_lt c0) (fun h => h)]; exact c0
  go_wp2_with fail
  go_quiet (fail)
  go_wp2_with fail
  go_ret2
  exact ⟨rfl, (M5.out.1.nothing N5.out).nothing (drawn_chg ⟨_, rfl⟩), M5.out.2.trans (N5.out.mono (fun _ h => h.elim)) |>.drewN _⟩

set_option maxRecDepth 100000 in
set_option maxHeartbeats 1600000 in
theorem rwalk_c1 (S : Nat → Prop) (w : World) (r F : Nat) (U : Nat → Nat) (h : RX S w r F U) (hF : F ≤ 256) (root : Nat) (hr : root < F) (at_ : Nat) (x y : Nat) (hx : x + 8 ≤ F * 256) (hx8 : x % 8 = 0) (hy : entV U x = y)
    (LF : Calls Tryz.prog 67 #[.pointer (some ⟨r, 0, none⟩), .int .i64 root, .int .u64 at_] w (StepR S w r F U (.tuple #[.int .u64 (x : Nat), .int .i64 0]))) (e1 : y % 2 = 1) (e2 : y / 16 % 2 = 1) (e3 : y / 2 % 2 = 0) :
    Calls Tryz.prog 37 #[.pointer (some ⟨r, 0, none⟩), .int .i64 root, .int .u64 at_, .int .i64 1] w (StepR S w r F U (errV 3)) := by
  have HR := rw_root S w r F U h hF root
  rw [decide_eq_true (show (0 : Int) ≤ root ∧ (root : Int) < (F : Int) by omega)] at HR
  have HR := Lib.hid HR
  obtain ⟨tb, htb⟩ : ∃ tb, tb = x / 256 := ⟨_, rfl⟩
  obtain ⟨kk, hkk⟩ : ∃ kk, kk = x % 256 / 8 := ⟨_, rfl⟩
  have hxx : tb * 256 + 8 * kk = x := by omega
  have WD := fun W (H : RX S W r F U) => rw_word S W r F U H hF tb kk (by omega) (by omega)
  rw [hxx, hy] at WD
  have hyl := entV_lt U x
  rw [hy] at hyl
  obtain ⟨g1, g2⟩ := hx_place x tb kk htb hkk (by omega)
  have WD := fun W (H : RX S W r F U) => (Eq.mpr (congrArg (fun a => Calls Tryz.prog 68 a W _) (by rw [g1, g2])) (WD W H) : Calls Tryz.prog 68 #[.pointer (some ⟨r, 0, none⟩), .int .u64 (IntKind.u64.wrap ((x : Int) / 256)), .int .i64 ((x : Int) % 256 / 8)] W _)
  have FY := fun W => rw_frame W y hyl
  obtain ⟨f, hf⟩ : ∃ f, f = y / 1024 := ⟨_, rfl⟩
  rw [← hf] at FY
  obtain ⟨h16, hh16⟩ : ∃ h16, h16 = y / 16 := ⟨_, rfl⟩
  obtain ⟨hb, hhb⟩ : ∃ hb, hb = y / 2 := ⟨_, rfl⟩
  obtain ⟨a1', a1⟩ := hx_div16 y h16 hh16 hyl
  obtain ⟨a2', a2⟩ := hx_div2 y hb hhb hyl
  obtain ⟨q0, q1, qF⟩ := hx_frames F hF
  clear htb hkk hx hx8 hxx g1 g2
  obtain ⟨k1, k1t⟩ := hx_mod y _ e1
  have k2n : h16 % 2 = 1 := by rw [hh16]; exact e2
  obtain ⟨k2, k2t⟩ := hx_mod h16 _ k2n
  clear k2n
  have k3n : hb % 2 = 0 := by rw [hhb]; exact e3
  obtain ⟨k3, k3t⟩ := hx_mod hb _ k3n
  clear k3n
  unfold errV
  have LF := Lib.hid LF; have WD := Lib.hid WD; have FY := Lib.hid FY
  clear h hr hy hyl hf hh16 hhb e1 e2 e3
  go_enter Tryz.func37, Tryz.ntmps37
  go_wp2_with fail
  refine HR.out.mono ?_
  rintro e w' ⟨rfl, rfl⟩
  go_wp2_with fail
  refine LF.out.mono ?_
  rintro e w4 ⟨rfl, m4, c4⟩
  have M4 := Lib.hid (And.intro m4 c4); clear m4 c4
  go_wp2_with fail
  refine (WD.out w4 M4.out.1).mono ?_
  rintro e w5 ⟨rfl, m5, c5⟩
  obtain ⟨g, _, _, c0, _⟩ := m5.fields
  have M5 := Lib.hid (And.intro m5 (M4.out.2.trans c5)); clear m5 c5
  generalize IntKind.u64.wrap ((x : Int) / 256) = X1 at *
  generalize (x : Int) % 256 / 8 = X2 at *
  generalize (x : Int) % 256 = X3 at *
  have N5 := Lib.hid ((Chg.refl (fun _ => False) w5).alloc (.cells #[.int .u64 2, .int .u64 4, .int .u64 8] 26))
  have c1 : (w5.alloc (.cells #[.int .u64 2, .int .u64 4, .int .u64 8] 26)).cell? ⟨r, 0, none⟩ = some (.slice (some ⟨g, 0, none⟩) (F * 256) (F * 256)) := by rw [N5.out.cell (cell_lt c0) (fun h => h)]; exact c0
  go_wp2_with fail
  go_quiet (fail)
  go_wp2_with fail
  go_ret2
  exact ⟨rfl, (M5.out.1.nothing N5.out).nothing (drawn_chg ⟨_, rfl⟩), M5.out.2.trans (N5.out.mono (fun _ h => h.elim)) |>.drewN _⟩

set_option maxRecDepth 100000 in
set_option maxHeartbeats 1600000 in
theorem rwalk_d1 (S : Nat → Prop) (w : World) (r F : Nat) (U : Nat → Nat) (h : RX S w r F U) (hF : F ≤ 256) (root : Nat) (hr : root < F) (at_ : Nat) (x y : Nat) (hx : x + 8 ≤ F * 256) (hx8 : x % 8 = 0) (hy : entV U x = y)
    (LF : Calls Tryz.prog 67 #[.pointer (some ⟨r, 0, none⟩), .int .i64 root, .int .u64 at_] w (StepR S w r F U (.tuple #[.int .u64 (x : Nat), .int .i64 0]))) (e1 : y % 2 = 1) (e2 : y / 16 % 2 = 1) (e3 : y / 2 % 2 = 1) (e4 : F ≤ y / 1024) :
    Calls Tryz.prog 37 #[.pointer (some ⟨r, 0, none⟩), .int .i64 root, .int .u64 at_, .int .i64 1] w (StepR S w r F U (errV 3)) := by
  have HR := rw_root S w r F U h hF root
  rw [decide_eq_true (show (0 : Int) ≤ root ∧ (root : Int) < (F : Int) by omega)] at HR
  have HR := Lib.hid HR
  obtain ⟨tb, htb⟩ : ∃ tb, tb = x / 256 := ⟨_, rfl⟩
  obtain ⟨kk, hkk⟩ : ∃ kk, kk = x % 256 / 8 := ⟨_, rfl⟩
  have hxx : tb * 256 + 8 * kk = x := by omega
  have WD := fun W (H : RX S W r F U) => rw_word S W r F U H hF tb kk (by omega) (by omega)
  rw [hxx, hy] at WD
  have hyl := entV_lt U x
  rw [hy] at hyl
  obtain ⟨g1, g2⟩ := hx_place x tb kk htb hkk (by omega)
  have WD := fun W (H : RX S W r F U) => (Eq.mpr (congrArg (fun a => Calls Tryz.prog 68 a W _) (by rw [g1, g2])) (WD W H) : Calls Tryz.prog 68 #[.pointer (some ⟨r, 0, none⟩), .int .u64 (IntKind.u64.wrap ((x : Int) / 256)), .int .i64 ((x : Int) % 256 / 8)] W _)
  have FY := fun W => rw_frame W y hyl
  obtain ⟨f, hf⟩ : ∃ f, f = y / 1024 := ⟨_, rfl⟩
  rw [← hf] at FY
  obtain ⟨h16, hh16⟩ : ∃ h16, h16 = y / 16 := ⟨_, rfl⟩
  obtain ⟨hb, hhb⟩ : ∃ hb, hb = y / 2 := ⟨_, rfl⟩
  obtain ⟨a1', a1⟩ := hx_div16 y h16 hh16 hyl
  obtain ⟨a2', a2⟩ := hx_div2 y hb hhb hyl
  obtain ⟨q0, q1, qF⟩ := hx_frames F hF
  clear htb hkk hx hx8 hxx g1 g2
  obtain ⟨k1, k1t⟩ := hx_mod y _ e1
  have k2n : h16 % 2 = 1 := by rw [hh16]; exact e2
  obtain ⟨k2, k2t⟩ := hx_mod h16 _ k2n
  clear k2n
  have k3n : hb % 2 = 1 := by rw [hhb]; exact e3
  obtain ⟨k3, k3t⟩ := hx_mod hb _ k3n
  clear k3n
  have k4n : F ≤ f := by rw [hf]; exact e4
  have k4 : decide ((F : Int) ≤ (f : Int)) = true := decide_eq_true (by exact_mod_cast k4n)
  unfold errV
  have LF := Lib.hid LF; have WD := Lib.hid WD; have FY := Lib.hid FY
  clear h hr hy hyl hf hh16 hhb e1 e2 e3 e4
  go_enter Tryz.func37, Tryz.ntmps37
  go_wp2_with fail
  refine HR.out.mono ?_
  rintro e w' ⟨rfl, rfl⟩
  go_wp2_with fail
  refine LF.out.mono ?_
  rintro e w4 ⟨rfl, m4, c4⟩
  have M4 := Lib.hid (And.intro m4 c4); clear m4 c4
  go_wp2_with fail
  refine (WD.out w4 M4.out.1).mono ?_
  rintro e w5 ⟨rfl, m5, c5⟩
  obtain ⟨g, _, _, c0, _⟩ := m5.fields
  have M5 := Lib.hid (And.intro m5 (M4.out.2.trans c5)); clear m5 c5
  generalize IntKind.u64.wrap ((x : Int) / 256) = X1 at *
  generalize (x : Int) % 256 / 8 = X2 at *
  generalize (x : Int) % 256 = X3 at *
  have N5 := Lib.hid ((Chg.refl (fun _ => False) w5).alloc (.cells #[.int .u64 2, .int .u64 4, .int .u64 8] 26))
  have c1 : (w5.alloc (.cells #[.int .u64 2, .int .u64 4, .int .u64 8] 26)).cell? ⟨r, 0, none⟩ = some (.slice (some ⟨g, 0, none⟩) (F * 256) (F * 256)) := by rw [N5.out.cell (cell_lt c0) (fun h => h)]; exact c0
  go_wp2_with fail
  go_quiet ((go_at_call 69; exact quiet_left (FY.out _)))
  go_wp2_with fail
  go_ret2
  exact ⟨rfl, (M5.out.1.nothing N5.out).nothing (drawn_chg ⟨_, rfl⟩), M5.out.2.trans (N5.out.mono (fun _ h => h.elim)) |>.drewN _⟩

set_option maxRecDepth 100000 in
set_option maxHeartbeats 1600000 in
theorem rwalk_e1 (S : Nat → Prop) (w : World) (r F : Nat) (U : Nat → Nat) (h : RX S w r F U) (hF : F ≤ 256) (root : Nat) (hr : root < F) (at_ : Nat) (x y : Nat) (hx : x + 8 ≤ F * 256) (hx8 : x % 8 = 0) (hy : entV U x = y)
    (LF : Calls Tryz.prog 67 #[.pointer (some ⟨r, 0, none⟩), .int .i64 root, .int .u64 at_] w (StepR S w r F U (.tuple #[.int .u64 (x : Nat), .int .i64 0]))) (e1 : y % 2 = 1) (e2 : y / 16 % 2 = 1) (e3 : y / 2 % 2 = 1) (e4 : y / 1024 < F) :
    Calls Tryz.prog 37 #[.pointer (some ⟨r, 0, none⟩), .int .i64 root, .int .u64 at_, .int .i64 1] w (StepR S w r F U (.tuple #[.int .u64 ((y / 1024 * 256 + at_ % 256 : Nat) : Int), .int .i64 0])) := by
  have HR := rw_root S w r F U h hF root
  rw [decide_eq_true (show (0 : Int) ≤ root ∧ (root : Int) < (F : Int) by omega)] at HR
  have HR := Lib.hid HR
  obtain ⟨tb, htb⟩ : ∃ tb, tb = x / 256 := ⟨_, rfl⟩
  obtain ⟨kk, hkk⟩ : ∃ kk, kk = x % 256 / 8 := ⟨_, rfl⟩
  have hxx : tb * 256 + 8 * kk = x := by omega
  have WD := fun W (H : RX S W r F U) => rw_word S W r F U H hF tb kk (by omega) (by omega)
  rw [hxx, hy] at WD
  have hyl := entV_lt U x
  rw [hy] at hyl
  obtain ⟨g1, g2⟩ := hx_place x tb kk htb hkk (by omega)
  have WD := fun W (H : RX S W r F U) => (Eq.mpr (congrArg (fun a => Calls Tryz.prog 68 a W _) (by rw [g1, g2])) (WD W H) : Calls Tryz.prog 68 #[.pointer (some ⟨r, 0, none⟩), .int .u64 (IntKind.u64.wrap ((x : Int) / 256)), .int .i64 ((x : Int) % 256 / 8)] W _)
  have FY := fun W => rw_frame W y hyl
  obtain ⟨f, hf⟩ : ∃ f, f = y / 1024 := ⟨_, rfl⟩
  rw [← hf] at FY
  obtain ⟨h16, hh16⟩ : ∃ h16, h16 = y / 16 := ⟨_, rfl⟩
  obtain ⟨hb, hhb⟩ : ∃ hb, hb = y / 2 := ⟨_, rfl⟩
  obtain ⟨a1', a1⟩ := hx_div16 y h16 hh16 hyl
  obtain ⟨a2', a2⟩ := hx_div2 y hb hhb hyl
  obtain ⟨q0, q1, qF⟩ := hx_frames F hF
  clear htb hkk hx hx8 hxx g1 g2
  obtain ⟨k1, k1t⟩ := hx_mod y _ e1
  have k2n : h16 % 2 = 1 := by rw [hh16]; exact e2
  obtain ⟨k2, k2t⟩ := hx_mod h16 _ k2n
  clear k2n
  have k3n : hb % 2 = 1 := by rw [hhb]; exact e3
  obtain ⟨k3, k3t⟩ := hx_mod hb _ k3n
  clear k3n
  have k4m : f < F := by rw [hf]; exact e4
  have k4n : ¬ F ≤ f := Nat.not_le.2 k4m
  have k4 : decide ((F : Int) ≤ (f : Int)) = false := decide_eq_false (by exact_mod_cast k4n)
  rw [← hf]
  obtain ⟨z1, z2, z3⟩ := hx_sum f at_ (Nat.lt_of_lt_of_le k4m hF)
  rw [z3]
  clear z3
  have LF := Lib.hid LF; have WD := Lib.hid WD; have FY := Lib.hid FY
  clear h hr hy hyl hf hh16 hhb e1 e2 e3 e4
  go_enter Tryz.func37, Tryz.ntmps37
  go_wp2_with fail
  refine HR.out.mono ?_
  rintro e w' ⟨rfl, rfl⟩
  go_wp2_with fail
  refine LF.out.mono ?_
  rintro e w4 ⟨rfl, m4, c4⟩
  have M4 := Lib.hid (And.intro m4 c4); clear m4 c4
  go_wp2_with fail
  refine (WD.out w4 M4.out.1).mono ?_
  rintro e w5 ⟨rfl, m5, c5⟩
  obtain ⟨g, _, _, c0, _⟩ := m5.fields
  have M5 := Lib.hid (And.intro m5 (M4.out.2.trans c5)); clear m5 c5
  generalize IntKind.u64.wrap ((x : Int) / 256) = X1 at *
  generalize (x : Int) % 256 / 8 = X2 at *
  generalize (x : Int) % 256 = X3 at *
  have N5 := Lib.hid ((Chg.refl (fun _ => False) w5).alloc (.cells #[.int .u64 2, .int .u64 4, .int .u64 8] 26))
  have c1 : (w5.alloc (.cells #[.int .u64 2, .int .u64 4, .int .u64 8] 26)).cell? ⟨r, 0, none⟩ = some (.slice (some ⟨g, 0, none⟩) (F * 256) (F * 256)) := by rw [N5.out.cell (cell_lt c0) (fun h => h)]; exact c0
  go_wp2_with fail
  go_quiet ((go_at_call 69; exact quiet_left (FY.out _)))
  go_wp2_with fail
  refine (FY.out _).mono ?_
  rintro e w' ⟨rfl, rfl⟩
  go_wp2_with fail
  go_ret2
  exact ⟨rfl, (M5.out.1.nothing N5.out).nothing (drawn_chg ⟨_, rfl⟩), M5.out.2.trans (N5.out.mono (fun _ h => h.elim)) |>.drewN _⟩

theorem rwalk_in1 (S : Nat → Prop) (w : World) (r F : Nat) (U : Nat → Nat) (h : RX S w r F U) (hF : F ≤ 256) (root : Nat) (hr : root < F) (at_ : Nat) (ha : at_ < 8388608) :
    Calls Tryz.prog 37 #[.pointer (some ⟨r, 0, none⟩), .int .i64 root, .int .u64 at_, .int .i64 1] w (StepR S w r F U (lfVal (tbWalk U F root at_ 1))) := by
  cases hl : tbLeaf U F root at_ with
  | none =>
    rw [wk_none hl]
    exact rwalk_none1 S w r F U h hF root hr at_ ha hl
  | some x =>
    have LF := rleaf_in S w r F U h hF root hr at_ ha
    rw [hl] at LF
    rw [wk_some hl]
    have hx := tbLeaf_lt hl
    have hx8 := tbLeaf_mod8 hl
    have hmay : ∀ y, tbMay F y 1 = decide (y % 2 ≠ 0 ∧ y / 16 % 2 ≠ 0 ∧ y / 2 % 2 ≠ 0 ∧ y / 1024 < F) := fun y => by unfold tbMay; rw [show 2 ^ 1 = 2 from rfl]
    have hno : ∀ y, ¬ (y % 2 ≠ 0 ∧ y / 16 % 2 ≠ 0 ∧ y / 2 % 2 ≠ 0 ∧ y / 1024 < F) → (if tbMay F y 1 = true then some (y / 1024 * 256 + at_ % 256) else none) = none := fun y hn => by rw [hmay, decide_eq_false hn]; rfl
    have hyes : ∀ y, (y % 2 ≠ 0 ∧ y / 16 % 2 ≠ 0 ∧ y / 2 % 2 ≠ 0 ∧ y / 1024 < F) → (if tbMay F y 1 = true then some (y / 1024 * 256 + at_ % 256) else none) = some (y / 1024 * 256 + at_ % 256) := fun y hn => by rw [hmay, decide_eq_true hn]; rfl
    obtain ⟨y, hy⟩ : ∃ y, entV U x = y := ⟨_, rfl⟩
    rw [hy]
    by_cases e1 : y % 2 = 0
    · rw [hno y (by omega)]; exact rwalk_a1 S w r F U h hF root hr at_ x y hx hx8 hy LF e1
    by_cases e2 : y / 16 % 2 = 0
    · rw [hno y (by omega)]; exact rwalk_b1 S w r F U h hF root hr at_ x y hx hx8 hy LF (by omega) e2
    by_cases e3 : y / 2 % 2 = 0
    · rw [hno y (by omega)]; exact rwalk_c1 S w r F U h hF root hr at_ x y hx hx8 hy LF (by omega) (by omega) e3
    by_cases e4 : F ≤ y / 1024
    · rw [hno y (by omega)]; exact rwalk_d1 S w r F U h hF root hr at_ x y hx hx8 hy LF (by omega) (by omega) (by omega) e4
    · rw [hyes y ⟨e1, e2, e3, by omega⟩]; exact rwalk_e1 S w r F U h hF root hr at_ x y hx hx8 hy LF (by omega) (by omega) (by omega) (by omega)

set_option maxRecDepth 100000 in
theorem rwalk_beyond2 (S : Nat → Prop) (w : World) (r F : Nat) (U : Nat → Nat) (h : RX S w r F U) (hF : F ≤ 256) (root : Nat) (hr : root < F) (at_ : Nat) (ha : 8388608 ≤ at_) :
    Calls Tryz.prog 37 #[.pointer (some ⟨r, 0, none⟩), .int .i64 root, .int .u64 at_, .int .i64 2] w fun e w' => e = .returned (errV 3) ∧ w = w' := by
  have HR := rw_root S w r F U h hF root
  rw [decide_eq_true (show (0 : Int) ≤ root ∧ (root : Int) < (F : Int) by omega)] at HR
  have HR := Lib.hid HR
  have LF := rleaf_beyond S w r F U h hF root hr at_ ha
  unfold errV at LF ⊢
  have LF := Lib.hid LF
  clear h hr ha
  go_enter Tryz.func37, Tryz.ntmps37
  go_wp2_with fail
  refine HR.out.mono ?_
  rintro e w' ⟨rfl, rfl⟩
  go_wp2_with fail
  refine LF.out.mono ?_
  rintro e w' ⟨rfl, rfl⟩
  go_wp2_with fail
  go_ret2
  exact ⟨rfl, rfl⟩
set_option maxRecDepth 100000 in
theorem rwalk_none2 (S : Nat → Prop) (w : World) (r F : Nat) (U : Nat → Nat) (h : RX S w r F U) (hF : F ≤ 256) (root : Nat) (hr : root < F) (at_ : Nat) (ha : at_ < 8388608) (hl : tbLeaf U F root at_ = none) :
    Calls Tryz.prog 37 #[.pointer (some ⟨r, 0, none⟩), .int .i64 root, .int .u64 at_, .int .i64 2] w (StepR S w r F U (errV 3)) := by
  have HR := rw_root S w r F U h hF root
  rw [decide_eq_true (show (0 : Int) ≤ root ∧ (root : Int) < (F : Int) by omega)] at HR
  have HR := Lib.hid HR
  have LF := rleaf_in S w r F U h hF root hr at_ ha
  rw [hl] at LF
  simp only [lfVal] at LF
  unfold errV
  have LF := Lib.hid LF
  clear h hr ha hl
  go_enter Tryz.func37, Tryz.ntmps37
  go_wp2_with fail
  refine HR.out.mono ?_
  rintro e w' ⟨rfl, rfl⟩
  go_wp2_with fail
  refine LF.out.mono ?_
  rintro e w4 ⟨rfl, m4, c4⟩
  have M4 := Lib.hid (And.intro m4 c4); clear m4 c4
  go_wp2_with fail
  go_ret2
  exact ⟨rfl, M4.out⟩

set_option maxRecDepth 100000 in
set_option maxHeartbeats 1600000 in
theorem rwalk_a2 (S : Nat → Prop) (w : World) (r F : Nat) (U : Nat → Nat) (h : RX S w r F U) (hF : F ≤ 256) (root : Nat) (hr : root < F) (at_ : Nat) (x y : Nat) (hx : x + 8 ≤ F * 256) (hx8 : x % 8 = 0) (hy : entV U x = y)
    (LF : Calls Tryz.prog 67 #[.pointer (some ⟨r, 0, none⟩), .int .i64 root, .int .u64 at_] w (StepR S w r F U (.tuple #[.int .u64 (x : Nat), .int .i64 0]))) (e1 : y % 2 = 0) :
    Calls Tryz.prog 37 #[.pointer (some ⟨r, 0, none⟩), .int .i64 root, .int .u64 at_, .int .i64 2] w (StepR S w r F U (errV 3)) := by
  have HR := rw_root S w r F U h hF root
  rw [decide_eq_true (show (0 : Int) ≤ root ∧ (root : Int) < (F : Int) by omega)] at HR
  have HR := Lib.hid HR
  obtain ⟨tb, htb⟩ : ∃ tb, tb = x / 256 := ⟨_, rfl⟩
  obtain ⟨kk, hkk⟩ : ∃ kk, kk = x % 256 / 8 := ⟨_, rfl⟩
  have hxx : tb * 256 + 8 * kk = x := by omega
  have WD := fun W (H : RX S W r F U) => rw_word S W r F U H hF tb kk (by omega) (by omega)
  rw [hxx, hy] at WD
  have hyl := entV_lt U x
  rw [hy] at hyl
  obtain ⟨g1, g2⟩ := hx_place x tb kk htb hkk (by omega)
  have WD := fun W (H : RX S W r F U) => (Eq.mpr (congrArg (fun a => Calls Tryz.prog 68 a W _) (by rw [g1, g2])) (WD W H) : Calls Tryz.prog 68 #[.pointer (some ⟨r, 0, none⟩), .int .u64 (IntKind.u64.wrap ((x : Int) / 256)), .int .i64 ((x : Int) % 256 / 8)] W _)
  have FY := fun W => rw_frame W y hyl
  obtain ⟨f, hf⟩ : ∃ f, f = y / 1024 := ⟨_, rfl⟩
  rw [← hf] at FY
  obtain ⟨h16, hh16⟩ : ∃ h16, h16 = y / 16 := ⟨_, rfl⟩
  obtain ⟨hb, hhb⟩ : ∃ hb, hb = y / 4 := ⟨_, rfl⟩
  obtain ⟨a1', a1⟩ := hx_div16 y h16 hh16 hyl
  obtain ⟨a2', a2⟩ := hx_div4 y hb hhb hyl
  obtain ⟨q0, q1, qF⟩ := hx_frames F hF
  clear htb hkk hx hx8 hxx g1 g2
  obtain ⟨k1, k1t⟩ := hx_mod y _ e1
  unfold errV
  have LF := Lib.hid LF; have WD := Lib.hid WD; have FY := Lib.hid FY
  clear h hr hy hyl hf hh16 hhb e1
  go_enter Tryz.func37, Tryz.ntmps37
  go_wp2_with fail
  refine HR.out.mono ?_
  rintro e w' ⟨rfl, rfl⟩
  go_wp2_with fail
  refine LF.out.mono ?_
  rintro e w4 ⟨rfl, m4, c4⟩
  have M4 := Lib.hid (And.intro m4 c4); clear m4 c4
  go_wp2_with fail
  refine (WD.out w4 M4.out.1).mono ?_
  rintro e w5 ⟨rfl, m5, c5⟩
  obtain ⟨g, _, _, c0, _⟩ := m5.fields
  have M5 := Lib.hid (And.intro m5 (M4.out.2.trans c5)); clear m5 c5
  generalize IntKind.u64.wrap ((x : Int) / 256) = X1 at *
  generalize (x : Int) % 256 / 8 = X2 at *
  generalize (x : Int) % 256 = X3 at *
  have N5 := Lib.hid ((Chg.refl (fun _ => False) w5).alloc (.cells #[.int .u64 2, .int .u64 4, .int .u64 8] 26))
  have c1 : (w5.alloc (.cells #[.int .u64 2, .int .u64 4, .int .u64 8] 26)).cell? ⟨r, 0, none⟩ = some (.slice (some ⟨g, 0, none⟩) (F * 256) (F * 256)) := by rw [N5.out.cell (cell_lt c0) (fun h => h)]; exact c0
  go_wp2_with fail
  go_quiet (fail)
  go_wp2_with fail
  go_ret2
  exact ⟨rfl, (M5.out.1.nothing N5.out).nothing (drawn_chg ⟨_, rfl⟩), M5.out.2.trans (N5.out.mono (fun _ h => h.elim)) |>.drewN _⟩

set_option maxRecDepth 100000 in
set_option maxHeartbeats 1600000 in
theorem rwalk_b2 (S : Nat → Prop) (w : World) (r F : Nat) (U : Nat → Nat) (h : RX S w r F U) (hF : F ≤ 256) (root : Nat) (hr : root < F) (at_ : Nat) (x y : Nat) (hx : x + 8 ≤ F * 256) (hx8 : x % 8 = 0) (hy : entV U x = y)
    (LF : Calls Tryz.prog 67 #[.pointer (some ⟨r, 0, none⟩), .int .i64 root, .int .u64 at_] w (StepR S w r F U (.tuple #[.int .u64 (x : Nat), .int .i64 0]))) (e1 : y % 2 = 1) (e2 : y / 16 % 2 = 0) :
    Calls Tryz.prog 37 #[.pointer (some ⟨r, 0, none⟩), .int .i64 root, .int .u64 at_, .int .i64 2] w (StepR S w r F U (errV 3)) := by
  have HR := rw_root S w r F U h hF root
  rw [decide_eq_true (show (0 : Int) ≤ root ∧ (root : Int) < (F : Int) by omega)] at HR
  have HR := Lib.hid HR
  obtain ⟨tb, htb⟩ : ∃ tb, tb = x / 256 := ⟨_, rfl⟩
  obtain ⟨kk, hkk⟩ : ∃ kk, kk = x % 256 / 8 := ⟨_, rfl⟩
  have hxx : tb * 256 + 8 * kk = x := by omega
  have WD := fun W (H : RX S W r F U) => rw_word S W r F U H hF tb kk (by omega) (by omega)
  rw [hxx, hy] at WD
  have hyl := entV_lt U x
  rw [hy] at hyl
  obtain ⟨g1, g2⟩ := hx_place x tb kk htb hkk (by omega)
  have WD := fun W (H : RX S W r F U) => (Eq.mpr (congrArg (fun a => Calls Tryz.prog 68 a W _) (by rw [g1, g2])) (WD W H) : Calls Tryz.prog 68 #[.pointer (some ⟨r, 0, none⟩), .int .u64 (IntKind.u64.wrap ((x : Int) / 256)), .int .i64 ((x : Int) % 256 / 8)] W _)
  have FY := fun W => rw_frame W y hyl
  obtain ⟨f, hf⟩ : ∃ f, f = y / 1024 := ⟨_, rfl⟩
  rw [← hf] at FY
  obtain ⟨h16, hh16⟩ : ∃ h16, h16 = y / 16 := ⟨_, rfl⟩
  obtain ⟨hb, hhb⟩ : ∃ hb, hb = y / 4 := ⟨_, rfl⟩
  obtain ⟨a1', a1⟩ := hx_div16 y h16 hh16 hyl
  obtain ⟨a2', a2⟩ := hx_div4 y hb hhb hyl
  obtain ⟨q0, q1, qF⟩ := hx_frames F hF
  clear htb hkk hx hx8 hxx g1 g2
  obtain ⟨k1, k1t⟩ := hx_mod y _ e1
  have k2n : h16 % 2 = 0 := by rw [hh16]; exact e2
  obtain ⟨k2, k2t⟩ := hx_mod h16 _ k2n
  clear k2n
  unfold errV
  have LF := Lib.hid LF; have WD := Lib.hid WD; have FY := Lib.hid FY
  clear h hr hy hyl hf hh16 hhb e1 e2
  go_enter Tryz.func37, Tryz.ntmps37
  go_wp2_with fail
  refine HR.out.mono ?_
  rintro e w' ⟨rfl, rfl⟩
  go_wp2_with fail
  refine LF.out.mono ?_
  rintro e w4 ⟨rfl, m4, c4⟩
  have M4 := Lib.hid (And.intro m4 c4); clear m4 c4
  go_wp2_with fail
  refine (WD.out w4 M4.out.1).mono ?_
  rintro e w5 ⟨rfl, m5, c5⟩
  obtain ⟨g, _, _, c0, _⟩ := m5.fields
  have M5 := Lib.hid (And.intro m5 (M4.out.2.trans c5)); clear m5 c5
  generalize IntKind.u64.wrap ((x : Int) / 256) = X1 at *
  generalize (x : Int) % 256 / 8 = X2 at *
  generalize (x : Int) % 256 = X3 at *
  have N5 := Lib.hid ((Chg.refl (fun _ => False) w5).alloc (.cells #[.int .u64 2, .int .u64 4, .int .u64 8] 26))
  have c1 : (w5.alloc (.cells #[.int .u64 2, .int .u64 4, .int .u64 8] 26)).cell? ⟨r, 0, none⟩ = some (.slice (some ⟨g, 0, none⟩) (F * 256) (F * 256)) := by rw [N5.out.cell (cell_lt c0) (fun h => h)]; exact c0
  go_wp2_with fail
  go_quiet (fail)
  go_wp2_with fail
  go_ret2
  exact ⟨rfl, (M5.out.1.nothing N5.out).nothing (drawn_chg ⟨_, rfl⟩), M5.out.2.trans (N5.out.mono (fun _ h => h.elim)) |>.drewN _⟩

set_option maxRecDepth 100000 in
set_option maxHeartbeats 1600000 in
theorem rwalk_c2 (S : Nat → Prop) (w : World) (r F : Nat) (U : Nat → Nat) (h : RX S w r F U) (hF : F ≤ 256) (root : Nat) (hr : root < F) (at_ : Nat) (x y : Nat) (hx : x + 8 ≤ F * 256) (hx8 : x % 8 = 0) (hy : entV U x = y)
    (LF : Calls Tryz.prog 67 #[.pointer (some ⟨r, 0, none⟩), .int .i64 root, .int .u64 at_] w (StepR S w r F U (.tuple #[.int .u64 (x : Nat), .int .i64 0]))) (e1 : y % 2 = 1) (e2 : y / 16 % 2 = 1) (e3 : y / 4 % 2 = 0) :
    Calls Tryz.prog 37 #[.pointer (some ⟨r, 0, none⟩), .int .i64 root, .int .u64 at_, .int .i64 2] w (StepR S w r F U (errV 3)) := by
  have HR := rw_root S w r F U h hF root
  rw [decide_eq_true (show (0 : Int) ≤ root ∧ (root : Int) < (F : Int) by omega)] at HR
  have HR := Lib.hid HR
  obtain ⟨tb, htb⟩ : ∃ tb, tb = x / 256 := ⟨_, rfl⟩
  obtain ⟨kk, hkk⟩ : ∃ kk, kk = x % 256 / 8 := ⟨_, rfl⟩
  have hxx : tb * 256 + 8 * kk = x := by omega
  have WD := fun W (H : RX S W r F U) => rw_word S W r F U H hF tb kk (by omega) (by omega)
  rw [hxx, hy] at WD
  have hyl := entV_lt U x
  rw [hy] at hyl
  obtain ⟨g1, g2⟩ := hx_place x tb kk htb hkk (by omega)
  have WD := fun W (H : RX S W r F U) => (Eq.mpr (congrArg (fun a => Calls Tryz.prog 68 a W _) (by rw [g1, g2])) (WD W H) : Calls Tryz.prog 68 #[.pointer (some ⟨r, 0, none⟩), .int .u64 (IntKind.u64.wrap ((x : Int) / 256)), .int .i64 ((x : Int) % 256 / 8)] W _)
  have FY := fun W => rw_frame W y hyl
  obtain ⟨f, hf⟩ : ∃ f, f = y / 1024 := ⟨_, rfl⟩
  rw [← hf] at FY
  obtain ⟨h16, hh16⟩ : ∃ h16, h16 = y / 16 := ⟨_, rfl⟩
  obtain ⟨hb, hhb⟩ : ∃ hb, hb = y / 4 := ⟨_, rfl⟩
  obtain ⟨a1', a1⟩ := hx_div16 y h16 hh16 hyl
  obtain ⟨a2', a2⟩ := hx_div4 y hb hhb hyl
  obtain ⟨q0, q1, qF⟩ := hx_frames F hF
  clear htb hkk hx hx8 hxx g1 g2
  obtain ⟨k1, k1t⟩ := hx_mod y _ e1
  have k2n : h16 % 2 = 1 := by rw [hh16]; exact e2
  obtain ⟨k2, k2t⟩ := hx_mod h16 _ k2n
  clear k2n
  have k3n : hb % 2 = 0 := by rw [hhb]; exact e3
  obtain ⟨k3, k3t⟩ := hx_mod hb _ k3n
  clear k3n
  unfold errV
  have LF := Lib.hid LF; have WD := Lib.hid WD; have FY := Lib.hid FY
  clear h hr hy hyl hf hh16 hhb e1 e2 e3
  go_enter Tryz.func37, Tryz.ntmps37
  go_wp2_with fail
  refine HR.out.mono ?_
  rintro e w' ⟨rfl, rfl⟩
  go_wp2_with fail
  refine LF.out.mono ?_
  rintro e w4 ⟨rfl, m4, c4⟩
  have M4 := Lib.hid (And.intro m4 c4); clear m4 c4
  go_wp2_with fail
  refine (WD.out w4 M4.out.1).mono ?_
  rintro e w5 ⟨rfl, m5, c5⟩
  obtain ⟨g, _, _, c0, _⟩ := m5.fields
  have M5 := Lib.hid (And.intro m5 (M4.out.2.trans c5)); clear m5 c5
  generalize IntKind.u64.wrap ((x : Int) / 256) = X1 at *
  generalize (x : Int) % 256 / 8 = X2 at *
  generalize (x : Int) % 256 = X3 at *
  have N5 := Lib.hid ((Chg.refl (fun _ => False) w5).alloc (.cells #[.int .u64 2, .int .u64 4, .int .u64 8] 26))
  have c1 : (w5.alloc (.cells #[.int .u64 2, .int .u64 4, .int .u64 8] 26)).cell? ⟨r, 0, none⟩ = some (.slice (some ⟨g, 0, none⟩) (F * 256) (F * 256)) := by rw [N5.out.cell (cell_lt c0) (fun h => h)]; exact c0
  go_wp2_with fail
  go_quiet (fail)
  go_wp2_with fail
  go_ret2
  exact ⟨rfl, (M5.out.1.nothing N5.out).nothing (drawn_chg ⟨_, rfl⟩), M5.out.2.trans (N5.out.mono (fun _ h => h.elim)) |>.drewN _⟩

set_option maxRecDepth 100000 in
set_option maxHeartbeats 1600000 in
theorem rwalk_d2 (S : Nat → Prop) (w : World) (r F : Nat) (U : Nat → Nat) (h : RX S w r F U) (hF : F ≤ 256) (root : Nat) (hr : root < F) (at_ : Nat) (x y : Nat) (hx : x + 8 ≤ F * 256) (hx8 : x % 8 = 0) (hy : entV U x = y)
    (LF : Calls Tryz.prog 67 #[.pointer (some ⟨r, 0, none⟩), .int .i64 root, .int .u64 at_] w (StepR S w r F U (.tuple #[.int .u64 (x : Nat), .int .i64 0]))) (e1 : y % 2 = 1) (e2 : y / 16 % 2 = 1) (e3 : y / 4 % 2 = 1) (e4 : F ≤ y / 1024) :
    Calls Tryz.prog 37 #[.pointer (some ⟨r, 0, none⟩), .int .i64 root, .int .u64 at_, .int .i64 2] w (StepR S w r F U (errV 3)) := by
  have HR := rw_root S w r F U h hF root
  rw [decide_eq_true (show (0 : Int) ≤ root ∧ (root : Int) < (F : Int) by omega)] at HR
  have HR := Lib.hid HR
  obtain ⟨tb, htb⟩ : ∃ tb, tb = x / 256 := ⟨_, rfl⟩
  obtain ⟨kk, hkk⟩ : ∃ kk, kk = x % 256 / 8 := ⟨_, rfl⟩
  have hxx : tb * 256 + 8 * kk = x := by omega
  have WD := fun W (H : RX S W r F U) => rw_word S W r F U H hF tb kk (by omega) (by omega)
  rw [hxx, hy] at WD
  have hyl := entV_lt U x
  rw [hy] at hyl
  obtain ⟨g1, g2⟩ := hx_place x tb kk htb hkk (by omega)
  have WD := fun W (H : RX S W r F U) => (Eq.mpr (congrArg (fun a => Calls Tryz.prog 68 a W _) (by rw [g1, g2])) (WD W H) : Calls Tryz.prog 68 #[.pointer (some ⟨r, 0, none⟩), .int .u64 (IntKind.u64.wrap ((x : Int) / 256)), .int .i64 ((x : Int) % 256 / 8)] W _)
  have FY := fun W => rw_frame W y hyl
  obtain ⟨f, hf⟩ : ∃ f, f = y / 1024 := ⟨_, rfl⟩
  rw [← hf] at FY
  obtain ⟨h16, hh16⟩ : ∃ h16, h16 = y / 16 := ⟨_, rfl⟩
  obtain ⟨hb, hhb⟩ : ∃ hb, hb = y / 4 := ⟨_, rfl⟩
  obtain ⟨a1', a1⟩ := hx_div16 y h16 hh16 hyl
  obtain ⟨a2', a2⟩ := hx_div4 y hb hhb hyl
  obtain ⟨q0, q1, qF⟩ := hx_frames F hF
  clear htb hkk hx hx8 hxx g1 g2
  obtain ⟨k1, k1t⟩ := hx_mod y _ e1
  have k2n : h16 % 2 = 1 := by rw [hh16]; exact e2
  obtain ⟨k2, k2t⟩ := hx_mod h16 _ k2n
  clear k2n
  have k3n : hb % 2 = 1 := by rw [hhb]; exact e3
  obtain ⟨k3, k3t⟩ := hx_mod hb _ k3n
  clear k3n
  have k4n : F ≤ f := by rw [hf]; exact e4
  have k4 : decide ((F : Int) ≤ (f : Int)) = true := decide_eq_true (by exact_mod_cast k4n)
  unfold errV
  have LF := Lib.hid LF; have WD := Lib.hid WD; have FY := Lib.hid FY
  clear h hr hy hyl hf hh16 hhb e1 e2 e3 e4
  go_enter Tryz.func37, Tryz.ntmps37
  go_wp2_with fail
  refine HR.out.mono ?_
  rintro e w' ⟨rfl, rfl⟩
  go_wp2_with fail
  refine LF.out.mono ?_
  rintro e w4 ⟨rfl, m4, c4⟩
  have M4 := Lib.hid (And.intro m4 c4); clear m4 c4
  go_wp2_with fail
  refine (WD.out w4 M4.out.1).mono ?_
  rintro e w5 ⟨rfl, m5, c5⟩
  obtain ⟨g, _, _, c0, _⟩ := m5.fields
  have M5 := Lib.hid (And.intro m5 (M4.out.2.trans c5)); clear m5 c5
  generalize IntKind.u64.wrap ((x : Int) / 256) = X1 at *
  generalize (x : Int) % 256 / 8 = X2 at *
  generalize (x : Int) % 256 = X3 at *
  have N5 := Lib.hid ((Chg.refl (fun _ => False) w5).alloc (.cells #[.int .u64 2, .int .u64 4, .int .u64 8] 26))
  have c1 : (w5.alloc (.cells #[.int .u64 2, .int .u64 4, .int .u64 8] 26)).cell? ⟨r, 0, none⟩ = some (.slice (some ⟨g, 0, none⟩) (F * 256) (F * 256)) := by rw [N5.out.cell (cell_lt c0) (fun h => h)]; exact c0
  go_wp2_with fail
  go_quiet ((go_at_call 69; exact quiet_left (FY.out _)))
  go_wp2_with fail
  go_ret2
  exact ⟨rfl, (M5.out.1.nothing N5.out).nothing (drawn_chg ⟨_, rfl⟩), M5.out.2.trans (N5.out.mono (fun _ h => h.elim)) |>.drewN _⟩

set_option maxRecDepth 100000 in
set_option maxHeartbeats 1600000 in
theorem rwalk_e2 (S : Nat → Prop) (w : World) (r F : Nat) (U : Nat → Nat) (h : RX S w r F U) (hF : F ≤ 256) (root : Nat) (hr : root < F) (at_ : Nat) (x y : Nat) (hx : x + 8 ≤ F * 256) (hx8 : x % 8 = 0) (hy : entV U x = y)
    (LF : Calls Tryz.prog 67 #[.pointer (some ⟨r, 0, none⟩), .int .i64 root, .int .u64 at_] w (StepR S w r F U (.tuple #[.int .u64 (x : Nat), .int .i64 0]))) (e1 : y % 2 = 1) (e2 : y / 16 % 2 = 1) (e3 : y / 4 % 2 = 1) (e4 : y / 1024 < F) :
    Calls Tryz.prog 37 #[.pointer (some ⟨r, 0, none⟩), .int .i64 root, .int .u64 at_, .int .i64 2] w (StepR S w r F U (.tuple #[.int .u64 ((y / 1024 * 256 + at_ % 256 : Nat) : Int), .int .i64 0])) := by
  have HR := rw_root S w r F U h hF root
  rw [decide_eq_true (show (0 : Int) ≤ root ∧ (root : Int) < (F : Int) by omega)] at HR
  have HR := Lib.hid HR
  obtain ⟨tb, htb⟩ : ∃ tb, tb = x / 256 := ⟨_, rfl⟩
  obtain ⟨kk, hkk⟩ : ∃ kk, kk = x % 256 / 8 := ⟨_, rfl⟩
  have hxx : tb * 256 + 8 * kk = x := by omega
  have WD := fun W (H : RX S W r F U) => rw_word S W r F U H hF tb kk (by omega) (by omega)
  rw [hxx, hy] at WD
  have hyl := entV_lt U x
  rw [hy] at hyl
  obtain ⟨g1, g2⟩ := hx_place x tb kk htb hkk (by omega)
  have WD := fun W (H : RX S W r F U) => (Eq.mpr (congrArg (fun a => Calls Tryz.prog 68 a W _) (by rw [g1, g2])) (WD W H) : Calls Tryz.prog 68 #[.pointer (some ⟨r, 0, none⟩), .int .u64 (IntKind.u64.wrap ((x : Int) / 256)), .int .i64 ((x : Int) % 256 / 8)] W _)
  have FY := fun W => rw_frame W y hyl
  obtain ⟨f, hf⟩ : ∃ f, f = y / 1024 := ⟨_, rfl⟩
  rw [← hf] at FY
  obtain ⟨h16, hh16⟩ : ∃ h16, h16 = y / 16 := ⟨_, rfl⟩
  obtain ⟨hb, hhb⟩ : ∃ hb, hb = y / 4 := ⟨_, rfl⟩
  obtain ⟨a1', a1⟩ := hx_div16 y h16 hh16 hyl
  obtain ⟨a2', a2⟩ := hx_div4 y hb hhb hyl
  obtain ⟨q0, q1, qF⟩ := hx_frames F hF
  clear htb hkk hx hx8 hxx g1 g2
  obtain ⟨k1, k1t⟩ := hx_mod y _ e1
  have k2n : h16 % 2 = 1 := by rw [hh16]; exact e2
  obtain ⟨k2, k2t⟩ := hx_mod h16 _ k2n
  clear k2n
  have k3n : hb % 2 = 1 := by rw [hhb]; exact e3
  obtain ⟨k3, k3t⟩ := hx_mod hb _ k3n
  clear k3n
  have k4m : f < F := by rw [hf]; exact e4
  have k4n : ¬ F ≤ f := Nat.not_le.2 k4m
  have k4 : decide ((F : Int) ≤ (f : Int)) = false := decide_eq_false (by exact_mod_cast k4n)
  rw [← hf]
  obtain ⟨z1, z2, z3⟩ := hx_sum f at_ (Nat.lt_of_lt_of_le k4m hF)
  rw [z3]
  clear z3
  have LF := Lib.hid LF; have WD := Lib.hid WD; have FY := Lib.hid FY
  clear h hr hy hyl hf hh16 hhb e1 e2 e3 e4
  go_enter Tryz.func37, Tryz.ntmps37
  go_wp2_with fail
  refine HR.out.mono ?_
  rintro e w' ⟨rfl, rfl⟩
  go_wp2_with fail
  refine LF.out.mono ?_
  rintro e w4 ⟨rfl, m4, c4⟩
  have M4 := Lib.hid (And.intro m4 c4); clear m4 c4
  go_wp2_with fail
  refine (WD.out w4 M4.out.1).mono ?_
  rintro e w5 ⟨rfl, m5, c5⟩
  obtain ⟨g, _, _, c0, _⟩ := m5.fields
  have M5 := Lib.hid (And.intro m5 (M4.out.2.trans c5)); clear m5 c5
  generalize IntKind.u64.wrap ((x : Int) / 256) = X1 at *
  generalize (x : Int) % 256 / 8 = X2 at *
  generalize (x : Int) % 256 = X3 at *
  have N5 := Lib.hid ((Chg.refl (fun _ => False) w5).alloc (.cells #[.int .u64 2, .int .u64 4, .int .u64 8] 26))
  have c1 : (w5.alloc (.cells #[.int .u64 2, .int .u64 4, .int .u64 8] 26)).cell? ⟨r, 0, none⟩ = some (.slice (some ⟨g, 0, none⟩) (F * 256) (F * 256)) := by rw [N5.out.cell (cell_lt c0) (fun h => h)]; exact c0
  go_wp2_with fail
  go_quiet ((go_at_call 69; exact quiet_left (FY.out _)))
  go_wp2_with fail
  refine (FY.out _).mono ?_
  rintro e w' ⟨rfl, rfl⟩
  go_wp2_with fail
  go_ret2
  exact ⟨rfl, (M5.out.1.nothing N5.out).nothing (drawn_chg ⟨_, rfl⟩), M5.out.2.trans (N5.out.mono (fun _ h => h.elim)) |>.drewN _⟩

theorem rwalk_in2 (S : Nat → Prop) (w : World) (r F : Nat) (U : Nat → Nat) (h : RX S w r F U) (hF : F ≤ 256) (root : Nat) (hr : root < F) (at_ : Nat) (ha : at_ < 8388608) :
    Calls Tryz.prog 37 #[.pointer (some ⟨r, 0, none⟩), .int .i64 root, .int .u64 at_, .int .i64 2] w (StepR S w r F U (lfVal (tbWalk U F root at_ 2))) := by
  cases hl : tbLeaf U F root at_ with
  | none =>
    rw [wk_none hl]
    exact rwalk_none2 S w r F U h hF root hr at_ ha hl
  | some x =>
    have LF := rleaf_in S w r F U h hF root hr at_ ha
    rw [hl] at LF
    rw [wk_some hl]
    have hx := tbLeaf_lt hl
    have hx8 := tbLeaf_mod8 hl
    have hmay : ∀ y, tbMay F y 2 = decide (y % 2 ≠ 0 ∧ y / 16 % 2 ≠ 0 ∧ y / 4 % 2 ≠ 0 ∧ y / 1024 < F) := fun y => by unfold tbMay; rw [show 2 ^ 2 = 4 from rfl]
    have hno : ∀ y, ¬ (y % 2 ≠ 0 ∧ y / 16 % 2 ≠ 0 ∧ y / 4 % 2 ≠ 0 ∧ y / 1024 < F) → (if tbMay F y 2 = true then some (y / 1024 * 256 + at_ % 256) else none) = none := fun y hn => by rw [hmay, decide_eq_false hn]; rfl
    have hyes : ∀ y, (y % 2 ≠ 0 ∧ y / 16 % 2 ≠ 0 ∧ y / 4 % 2 ≠ 0 ∧ y / 1024 < F) → (if tbMay F y 2 = true then some (y / 1024 * 256 + at_ % 256) else none) = some (y / 1024 * 256 + at_ % 256) := fun y hn => by rw [hmay, decide_eq_true hn]; rfl
    obtain ⟨y, hy⟩ : ∃ y, entV U x = y := ⟨_, rfl⟩
    rw [hy]
    by_cases e1 : y % 2 = 0
    · rw [hno y (by omega)]; exact rwalk_a2 S w r F U h hF root hr at_ x y hx hx8 hy LF e1
    by_cases e2 : y / 16 % 2 = 0
    · rw [hno y (by omega)]; exact rwalk_b2 S w r F U h hF root hr at_ x y hx hx8 hy LF (by omega) e2
    by_cases e3 : y / 4 % 2 = 0
    · rw [hno y (by omega)]; exact rwalk_c2 S w r F U h hF root hr at_ x y hx hx8 hy LF (by omega) (by omega) e3
    by_cases e4 : F ≤ y / 1024
    · rw [hno y (by omega)]; exact rwalk_d2 S w r F U h hF root hr at_ x y hx hx8 hy LF (by omega) (by omega) (by omega) e4
    · rw [hyes y ⟨e1, e2, e3, by omega⟩]; exact rwalk_e2 S w r F U h hF root hr at_ x y hx hx8 hy LF (by omega) (by omega) (by omega) (by omega)

set_option maxRecDepth 100000 in
theorem rwalk_beyond3 (S : Nat → Prop) (w : World) (r F : Nat) (U : Nat → Nat) (h : RX S w r F U) (hF : F ≤ 256) (root : Nat) (hr : root < F) (at_ : Nat) (ha : 8388608 ≤ at_) :
    Calls Tryz.prog 37 #[.pointer (some ⟨r, 0, none⟩), .int .i64 root, .int .u64 at_, .int .i64 3] w fun e w' => e = .returned (errV 3) ∧ w = w' := by
  have HR := rw_root S w r F U h hF root
  rw [decide_eq_true (show (0 : Int) ≤ root ∧ (root : Int) < (F : Int) by omega)] at HR
  have HR := Lib.hid HR
  have LF := rleaf_beyond S w r F U h hF root hr at_ ha
  unfold errV at LF ⊢
  have LF := Lib.hid LF
  clear h hr ha
  go_enter Tryz.func37, Tryz.ntmps37
  go_wp2_with fail
  refine HR.out.mono ?_
  rintro e w' ⟨rfl, rfl⟩
  go_wp2_with fail
  refine LF.out.mono ?_
  rintro e w' ⟨rfl, rfl⟩
  go_wp2_with fail
  go_ret2
  exact ⟨rfl, rfl⟩
set_option maxRecDepth 100000 in
theorem rwalk_none3 (S : Nat → Prop) (w : World) (r F : Nat) (U : Nat → Nat) (h : RX S w r F U) (hF : F ≤ 256) (root : Nat) (hr : root < F) (at_ : Nat) (ha : at_ < 8388608) (hl : tbLeaf U F root at_ = none) :
    Calls Tryz.prog 37 #[.pointer (some ⟨r, 0, none⟩), .int .i64 root, .int .u64 at_, .int .i64 3] w (StepR S w r F U (errV 3)) := by
  have HR := rw_root S w r F U h hF root
  rw [decide_eq_true (show (0 : Int) ≤ root ∧ (root : Int) < (F : Int) by omega)] at HR
  have HR := Lib.hid HR
  have LF := rleaf_in S w r F U h hF root hr at_ ha
  rw [hl] at LF
  simp only [lfVal] at LF
  unfold errV
  have LF := Lib.hid LF
  clear h hr ha hl
  go_enter Tryz.func37, Tryz.ntmps37
  go_wp2_with fail
  refine HR.out.mono ?_
  rintro e w' ⟨rfl, rfl⟩
  go_wp2_with fail
  refine LF.out.mono ?_
  rintro e w4 ⟨rfl, m4, c4⟩
  have M4 := Lib.hid (And.intro m4 c4); clear m4 c4
  go_wp2_with fail
  go_ret2
  exact ⟨rfl, M4.out⟩

set_option maxRecDepth 100000 in
set_option maxHeartbeats 1600000 in
theorem rwalk_a3 (S : Nat → Prop) (w : World) (r F : Nat) (U : Nat → Nat) (h : RX S w r F U) (hF : F ≤ 256) (root : Nat) (hr : root < F) (at_ : Nat) (x y : Nat) (hx : x + 8 ≤ F * 256) (hx8 : x % 8 = 0) (hy : entV U x = y)
    (LF : Calls Tryz.prog 67 #[.pointer (some ⟨r, 0, none⟩), .int .i64 root, .int .u64 at_] w (StepR S w r F U (.tuple #[.int .u64 (x : Nat), .int .i64 0]))) (e1 : y % 2 = 0) :
    Calls Tryz.prog 37 #[.pointer (some ⟨r, 0, none⟩), .int .i64 root, .int .u64 at_, .int .i64 3] w (StepR S w r F U (errV 3)) := by
  have HR := rw_root S w r F U h hF root
  rw [decide_eq_true (show (0 : Int) ≤ root ∧ (root : Int) < (F : Int) by omega)] at HR
  have HR := Lib.hid HR
  obtain ⟨tb, htb⟩ : ∃ tb, tb = x / 256 := ⟨_, rfl⟩
  obtain ⟨kk, hkk⟩ : ∃ kk, kk = x % 256 / 8 := ⟨_, rfl⟩
  have hxx : tb * 256 + 8 * kk = x := by omega
  have WD := fun W (H : RX S W r F U) => rw_word S W r F U H hF tb kk (by omega) (by omega)
  rw [hxx, hy] at WD
  have hyl := entV_lt U x
  rw [hy] at hyl
  obtain ⟨g1, g2⟩ := hx_place x tb kk htb hkk (by omega)
  have WD := fun W (H : RX S W r F U) => (Eq.mpr (congrArg (fun a => Calls Tryz.prog 68 a W _) (by rw [g1, g2])) (WD W H) : Calls Tryz.prog 68 #[.pointer (some ⟨r, 0, none⟩), .int .u64 (IntKind.u64.wrap ((x : Int) / 256)), .int .i64 ((x : Int) % 256 / 8)] W _)
  have FY := fun W => rw_frame W y hyl
  obtain ⟨f, hf⟩ : ∃ f, f = y / 1024 := ⟨_, rfl⟩
  rw [← hf] at FY
  obtain ⟨h16, hh16⟩ : ∃ h16, h16 = y / 16 := ⟨_, rfl⟩
  obtain ⟨hb, hhb⟩ : ∃ hb, hb = y / 8 := ⟨_, rfl⟩
  obtain ⟨a1', a1⟩ := hx_div16 y h16 hh16 hyl
  obtain ⟨a2', a2⟩ := hx_div8 y hb hhb hyl
  obtain ⟨q0, q1, qF⟩ := hx_frames F hF
  clear htb hkk hx hx8 hxx g1 g2
  obtain ⟨k1, k1t⟩ := hx_mod y _ e1
  unfold errV
  have LF := Lib.hid LF; have WD := Lib.hid WD; have FY := Lib.hid FY
  clear h hr hy hyl hf hh16 hhb e1
  go_enter Tryz.func37, Tryz.ntmps37
  go_wp2_with fail
  refine HR.out.mono ?_
  rintro e w' ⟨rfl, rfl⟩
  go_wp2_with fail
  refine LF.out.mono ?_
  rintro e w4 ⟨rfl, m4, c4⟩
  have M4 := Lib.hid (And.intro m4 c4); clear m4 c4
  go_wp2_with fail
  refine (WD.out w4 M4.out.1).mono ?_
  rintro e w5 ⟨rfl, m5, c5⟩
  obtain ⟨g, _, _, c0, _⟩ := m5.fields
  have M5 := Lib.hid (And.intro m5 (M4.out.2.trans c5)); clear m5 c5
  generalize IntKind.u64.wrap ((x : Int) / 256) = X1 at *
  generalize (x : Int) % 256 / 8 = X2 at *
  generalize (x : Int) % 256 = X3 at *
  have N5 := Lib.hid ((Chg.refl (fun _ => False) w5).alloc (.cells #[.int .u64 2, .int .u64 4, .int .u64 8] 26))
  have c1 : (w5.alloc (.cells #[.int .u64 2, .int .u64 4, .int .u64 8] 26)).cell? ⟨r, 0, none⟩ = some (.slice (some ⟨g, 0, none⟩) (F * 256) (F * 256)) := by rw [N5.out.cell (cell_lt c0) (fun h => h)]; exact c0
  go_wp2_with fail
  go_quiet (fail)
  go_wp2_with fail
  go_ret2
  exact ⟨rfl, (M5.out.1.nothing N5.out).nothing (drawn_chg ⟨_, rfl⟩), M5.out.2.trans (N5.out.mono (fun _ h => h.elim)) |>.drewN _⟩

set_option maxRecDepth 100000 in
set_option maxHeartbeats 1600000 in
theorem rwalk_b3 (S : Nat → Prop) (w : World) (r F : Nat) (U : Nat → Nat) (h : RX S w r F U) (hF : F ≤ 256) (root : Nat) (hr : root < F) (at_ : Nat) (x y : Nat) (hx : x + 8 ≤ F * 256) (hx8 : x % 8 = 0) (hy : entV U x = y)
    (LF : Calls Tryz.prog 67 #[.pointer (some ⟨r, 0, none⟩), .int .i64 root, .int .u64 at_] w (StepR S w r F U (.tuple #[.int .u64 (x : Nat), .int .i64 0]))) (e1 : y % 2 = 1) (e2 : y / 16 % 2 = 0) :
    Calls Tryz.prog 37 #[.pointer (some ⟨r, 0, none⟩), .int .i64 root, .int .u64 at_, .int .i64 3] w (StepR S w r F U (errV 3)) := by
  have HR := rw_root S w r F U h hF root
  rw [decide_eq_true (show (0 : Int) ≤ root ∧ (root : Int) < (F : Int) by omega)] at HR
  have HR := Lib.hid HR
  obtain ⟨tb, htb⟩ : ∃ tb, tb = x / 256 := ⟨_, rfl⟩
  obtain ⟨kk, hkk⟩ : ∃ kk, kk = x % 256 / 8 := ⟨_, rfl⟩
  have hxx : tb * 256 + 8 * kk = x := by omega
  have WD := fun W (H : RX S W r F U) => rw_word S W r F U H hF tb kk (by omega) (by omega)
  rw [hxx, hy] at WD
  have hyl := entV_lt U x
  rw [hy] at hyl
  obtain ⟨g1, g2⟩ := hx_place x tb kk htb hkk (by omega)
  have WD := fun W (H : RX S W r F U) => (Eq.mpr (congrArg (fun a => Calls Tryz.prog 68 a W _) (by rw [g1, g2])) (WD W H) : Calls Tryz.prog 68 #[.pointer (some ⟨r, 0, none⟩), .int .u64 (IntKind.u64.wrap ((x : Int) / 256)), .int .i64 ((x : Int) % 256 / 8)] W _)
  have FY := fun W => rw_frame W y hyl
  obtain ⟨f, hf⟩ : ∃ f, f = y / 1024 := ⟨_, rfl⟩
  rw [← hf] at FY
  obtain ⟨h16, hh16⟩ : ∃ h16, h16 = y / 16 := ⟨_, rfl⟩
  obtain ⟨hb, hhb⟩ : ∃ hb, hb = y / 8 := ⟨_, rfl⟩
  obtain ⟨a1', a1⟩ := hx_div16 y h16 hh16 hyl
  obtain ⟨a2', a2⟩ := hx_div8 y hb hhb hyl
  obtain ⟨q0, q1, qF⟩ := hx_frames F hF
  clear htb hkk hx hx8 hxx g1 g2
  obtain ⟨k1, k1t⟩ := hx_mod y _ e1
  have k2n : h16 % 2 = 0 := by rw [hh16]; exact e2
  obtain ⟨k2, k2t⟩ := hx_mod h16 _ k2n
  clear k2n
  unfold errV
  have LF := Lib.hid LF; have WD := Lib.hid WD; have FY := Lib.hid FY
  clear h hr hy hyl hf hh16 hhb e1 e2
  go_enter Tryz.func37, Tryz.ntmps37
  go_wp2_with fail
  refine HR.out.mono ?_
  rintro e w' ⟨rfl, rfl⟩
  go_wp2_with fail
  refine LF.out.mono ?_
  rintro e w4 ⟨rfl, m4, c4⟩
  have M4 := Lib.hid (And.intro m4 c4); clear m4 c4
  go_wp2_with fail
  refine (WD.out w4 M4.out.1).mono ?_
  rintro e w5 ⟨rfl, m5, c5⟩
  obtain ⟨g, _, _, c0, _⟩ := m5.fields
  have M5 := Lib.hid (And.intro m5 (M4.out.2.trans c5)); clear m5 c5
  generalize IntKind.u64.wrap ((x : Int) / 256) = X1 at *
  generalize (x : Int) % 256 / 8 = X2 at *
  generalize (x : Int) % 256 = X3 at *
  have N5 := Lib.hid ((Chg.refl (fun _ => False) w5).alloc (.cells #[.int .u64 2, .int .u64 4, .int .u64 8] 26))
  have c1 : (w5.alloc (.cells #[.int .u64 2, .int .u64 4, .int .u64 8] 26)).cell? ⟨r, 0, none⟩ = some (.slice (some ⟨g, 0, none⟩) (F * 256) (F * 256)) := by rw [N5.out.cell (cell_lt c0) (fun h => h)]; exact c0
  go_wp2_with fail
  go_quiet (fail)
  go_wp2_with fail
  go_ret2
  exact ⟨rfl, (M5.out.1.nothing N5.out).nothing (drawn_chg ⟨_, rfl⟩), M5.out.2.trans (N5.out.mono (fun _ h => h.elim)) |>.drewN _⟩

set_option maxRecDepth 100000 in
set_option maxHeartbeats 1600000 in
theorem rwalk_c3 (S : Nat → Prop) (w : World) (r F : Nat) (U : Nat → Nat) (h : RX S w r F U) (hF : F ≤ 256) (root : Nat) (hr : root < F) (at_ : Nat) (x y : Nat) (hx : x + 8 ≤ F * 256) (hx8 : x % 8 = 0) (hy : entV U x = y)
    (LF : Calls Tryz.prog 67 #[.pointer (some ⟨r, 0, none⟩), .int .i64 root, .int .u64 at_] w (StepR S w r F U (.tuple #[.int .u64 (x : Nat), .int .i64 0]))) (e1 : y % 2 = 1) (e2 : y / 16 % 2 = 1) (e3 : y / 8 % 2 = 0) :
    Calls Tryz.prog 37 #[.pointer (some ⟨r, 0, none⟩), .int .i64 root, .int .u64 at_, .int .i64 3] w (StepR S w r F U (errV 3)) := by
  have HR := rw_root S w r F U h hF root
  rw [decide_eq_true (show (0 : Int) ≤ root ∧ (root : Int) < (F : Int) by omega)] at HR
  have HR := Lib.hid HR
  obtain ⟨tb, htb⟩ : ∃ tb, tb = x / 256 := ⟨_, rfl⟩
  obtain ⟨kk, hkk⟩ : ∃ kk, kk = x % 256 / 8 := ⟨_, rfl⟩
  have hxx : tb * 256 + 8 * kk = x := by omega
  have WD := fun W (H : RX S W r F U) => rw_word S W r F U H hF tb kk (by omega) (by omega)
  rw [hxx, hy] at WD
  have hyl := entV_lt U x
  rw [hy] at hyl
  obtain ⟨g1, g2⟩ := hx_place x tb kk htb hkk (by omega)
  have WD := fun W (H : RX S W r F U) => (Eq.mpr (congrArg (fun a => Calls Tryz.prog 68 a W _) (by rw [g1, g2])) (WD W H) : Calls Tryz.prog 68 #[.pointer (some ⟨r, 0, none⟩), .int .u64 (IntKind.u64.wrap ((x : Int) / 256)), .int .i64 ((x : Int) % 256 / 8)] W _)
  have FY := fun W => rw_frame W y hyl
  obtain ⟨f, hf⟩ : ∃ f, f = y / 1024 := ⟨_, rfl⟩
  rw [← hf] at FY
  obtain ⟨h16, hh16⟩ : ∃ h16, h16 = y / 16 := ⟨_, rfl⟩
  obtain ⟨hb, hhb⟩ : ∃ hb, hb = y / 8 := ⟨_, rfl⟩
  obtain ⟨a1', a1⟩ := hx_div16 y h16 hh16 hyl
  obtain ⟨a2', a2⟩ := hx_div8 y hb hhb hyl
  obtain ⟨q0, q1, qF⟩ := hx_frames F hF
  clear htb hkk hx hx8 hxx g1 g2
  obtain ⟨k1, k1t⟩ := hx_mod y _ e1
  have k2n : h16 % 2 = 1 := by rw [hh16]; exact e2
  obtain ⟨k2, k2t⟩ := hx_mod h16 _ k2n
  clear k2n
  have k3n : hb % 2 = 0 := by rw [hhb]; exact e3
  obtain ⟨k3, k3t⟩ := hx_mod hb _ k3n
  clear k3n
  unfold errV
  have LF := Lib.hid LF; have WD := Lib.hid WD; have FY := Lib.hid FY
  clear h hr hy hyl hf hh16 hhb e1 e2 e3
  go_enter Tryz.func37, Tryz.ntmps37
  go_wp2_with fail
  refine HR.out.mono ?_
  rintro e w' ⟨rfl, rfl⟩
  go_wp2_with fail
  refine LF.out.mono ?_
  rintro e w4 ⟨rfl, m4, c4⟩
  have M4 := Lib.hid (And.intro m4 c4); clear m4 c4
  go_wp2_with fail
  refine (WD.out w4 M4.out.1).mono ?_
  rintro e w5 ⟨rfl, m5, c5⟩
  obtain ⟨g, _, _, c0, _⟩ := m5.fields
  have M5 := Lib.hid (And.intro m5 (M4.out.2.trans c5)); clear m5 c5
  generalize IntKind.u64.wrap ((x : Int) / 256) = X1 at *
  generalize (x : Int) % 256 / 8 = X2 at *
  generalize (x : Int) % 256 = X3 at *
  have N5 := Lib.hid ((Chg.refl (fun _ => False) w5).alloc (.cells #[.int .u64 2, .int .u64 4, .int .u64 8] 26))
  have c1 : (w5.alloc (.cells #[.int .u64 2, .int .u64 4, .int .u64 8] 26)).cell? ⟨r, 0, none⟩ = some (.slice (some ⟨g, 0, none⟩) (F * 256) (F * 256)) := by rw [N5.out.cell (cell_lt c0) (fun h => h)]; exact c0
  go_wp2_with fail
  go_quiet (fail)
  go_wp2_with fail
  go_ret2
  exact ⟨rfl, (M5.out.1.nothing N5.out).nothing (drawn_chg ⟨_, rfl⟩), M5.out.2.trans (N5.out.mono (fun _ h => h.elim)) |>.drewN _⟩

set_option maxRecDepth 100000 in
set_option maxHeartbeats 1600000 in
theorem rwalk_d3 (S : Nat → Prop) (w : World) (r F : Nat) (U : Nat → Nat) (h : RX S w r F U) (hF : F ≤ 256) (root : Nat) (hr : root < F) (at_ : Nat) (x y : Nat) (hx : x + 8 ≤ F * 256) (hx8 : x % 8 = 0) (hy : entV U x = y)
    (LF : Calls Tryz.prog 67 #[.pointer (some ⟨r, 0, none⟩), .int .i64 root, .int .u64 at_] w (StepR S w r F U (.tuple #[.int .u64 (x : Nat), .int .i64 0]))) (e1 : y % 2 = 1) (e2 : y / 16 % 2 = 1) (e3 : y / 8 % 2 = 1) (e4 : F ≤ y / 1024) :
    Calls Tryz.prog 37 #[.pointer (some ⟨r, 0, none⟩), .int .i64 root, .int .u64 at_, .int .i64 3] w (StepR S w r F U (errV 3)) := by
  have HR := rw_root S w r F U h hF root
  rw [decide_eq_true (show (0 : Int) ≤ root ∧ (root : Int) < (F : Int) by omega)] at HR
  have HR := Lib.hid HR
  obtain ⟨tb, htb⟩ : ∃ tb, tb = x / 256 := ⟨_, rfl⟩
  obtain ⟨kk, hkk⟩ : ∃ kk, kk = x % 256 / 8 := ⟨_, rfl⟩
  have hxx : tb * 256 + 8 * kk = x := by omega
  have WD := fun W (H : RX S W r F U) => rw_word S W r F U H hF tb kk (by omega) (by omega)
  rw [hxx, hy] at WD
  have hyl := entV_lt U x
  rw [hy] at hyl
  obtain ⟨g1, g2⟩ := hx_place x tb kk htb hkk (by omega)
  have WD := fun W (H : RX S W r F U) => (Eq.mpr (congrArg (fun a => Calls Tryz.prog 68 a W _) (by rw [g1, g2])) (WD W H) : Calls Tryz.prog 68 #[.pointer (some ⟨r, 0, none⟩), .int .u64 (IntKind.u64.wrap ((x : Int) / 256)), .int .i64 ((x : Int) % 256 / 8)] W _)
  have FY := fun W => rw_frame W y hyl
  obtain ⟨f, hf⟩ : ∃ f, f = y / 1024 := ⟨_, rfl⟩
  rw [← hf] at FY
  obtain ⟨h16, hh16⟩ : ∃ h16, h16 = y / 16 := ⟨_, rfl⟩
  obtain ⟨hb, hhb⟩ : ∃ hb, hb = y / 8 := ⟨_, rfl⟩
  obtain ⟨a1', a1⟩ := hx_div16 y h16 hh16 hyl
  obtain ⟨a2', a2⟩ := hx_div8 y hb hhb hyl
  obtain ⟨q0, q1, qF⟩ := hx_frames F hF
  clear htb hkk hx hx8 hxx g1 g2
  obtain ⟨k1, k1t⟩ := hx_mod y _ e1
  have k2n : h16 % 2 = 1 := by rw [hh16]; exact e2
  obtain ⟨k2, k2t⟩ := hx_mod h16 _ k2n
  clear k2n
  have k3n : hb % 2 = 1 := by rw [hhb]; exact e3
  obtain ⟨k3, k3t⟩ := hx_mod hb _ k3n
  clear k3n
  have k4n : F ≤ f := by rw [hf]; exact e4
  have k4 : decide ((F : Int) ≤ (f : Int)) = true := decide_eq_true (by exact_mod_cast k4n)
  unfold errV
  have LF := Lib.hid LF; have WD := Lib.hid WD; have FY := Lib.hid FY
  clear h hr hy hyl hf hh16 hhb e1 e2 e3 e4
  go_enter Tryz.func37, Tryz.ntmps37
  go_wp2_with fail
  refine HR.out.mono ?_
  rintro e w' ⟨rfl, rfl⟩
  go_wp2_with fail
  refine LF.out.mono ?_
  rintro e w4 ⟨rfl, m4, c4⟩
  have M4 := Lib.hid (And.intro m4 c4); clear m4 c4
  go_wp2_with fail
  refine (WD.out w4 M4.out.1).mono ?_
  rintro e w5 ⟨rfl, m5, c5⟩
  obtain ⟨g, _, _, c0, _⟩ := m5.fields
  have M5 := Lib.hid (And.intro m5 (M4.out.2.trans c5)); clear m5 c5
  generalize IntKind.u64.wrap ((x : Int) / 256) = X1 at *
  generalize (x : Int) % 256 / 8 = X2 at *
  generalize (x : Int) % 256 = X3 at *
  have N5 := Lib.hid ((Chg.refl (fun _ => False) w5).alloc (.cells #[.int .u64 2, .int .u64 4, .int .u64 8] 26))
  have c1 : (w5.alloc (.cells #[.int .u64 2, .int .u64 4, .int .u64 8] 26)).cell? ⟨r, 0, none⟩ = some (.slice (some ⟨g, 0, none⟩) (F * 256) (F * 256)) := by rw [N5.out.cell (cell_lt c0) (fun h => h)]; exact c0
  go_wp2_with fail
  go_quiet ((go_at_call 69; exact quiet_left (FY.out _)))
  go_wp2_with fail
  go_ret2
  exact ⟨rfl, (M5.out.1.nothing N5.out).nothing (drawn_chg ⟨_, rfl⟩), M5.out.2.trans (N5.out.mono (fun _ h => h.elim)) |>.drewN _⟩

set_option maxRecDepth 100000 in
set_option maxHeartbeats 1600000 in
theorem rwalk_e3 (S : Nat → Prop) (w : World) (r F : Nat) (U : Nat → Nat) (h : RX S w r F U) (hF : F ≤ 256) (root : Nat) (hr : root < F) (at_ : Nat) (x y : Nat) (hx : x + 8 ≤ F * 256) (hx8 : x % 8 = 0) (hy : entV U x = y)
    (LF : Calls Tryz.prog 67 #[.pointer (some ⟨r, 0, none⟩), .int .i64 root, .int .u64 at_] w (StepR S w r F U (.tuple #[.int .u64 (x : Nat), .int .i64 0]))) (e1 : y % 2 = 1) (e2 : y / 16 % 2 = 1) (e3 : y / 8 % 2 = 1) (e4 : y / 1024 < F) :
    Calls Tryz.prog 37 #[.pointer (some ⟨r, 0, none⟩), .int .i64 root, .int .u64 at_, .int .i64 3] w (StepR S w r F U (.tuple #[.int .u64 ((y / 1024 * 256 + at_ % 256 : Nat) : Int), .int .i64 0])) := by
  have HR := rw_root S w r F U h hF root
  rw [decide_eq_true (show (0 : Int) ≤ root ∧ (root : Int) < (F : Int) by omega)] at HR
  have HR := Lib.hid HR
  obtain ⟨tb, htb⟩ : ∃ tb, tb = x / 256 := ⟨_, rfl⟩
  obtain ⟨kk, hkk⟩ : ∃ kk, kk = x % 256 / 8 := ⟨_, rfl⟩
  have hxx : tb * 256 + 8 * kk = x := by omega
  have WD := fun W (H : RX S W r F U) => rw_word S W r F U H hF tb kk (by omega) (by omega)
  rw [hxx, hy] at WD
  have hyl := entV_lt U x
  rw [hy] at hyl
  obtain ⟨g1, g2⟩ := hx_place x tb kk htb hkk (by omega)
  have WD := fun W (H : RX S W r F U) => (Eq.mpr (congrArg (fun a => Calls Tryz.prog 68 a W _) (by rw [g1, g2])) (WD W H) : Calls Tryz.prog 68 #[.pointer (some ⟨r, 0, none⟩), .int .u64 (IntKind.u64.wrap ((x : Int) / 256)), .int .i64 ((x : Int) % 256 / 8)] W _)
  have FY := fun W => rw_frame W y hyl
  obtain ⟨f, hf⟩ : ∃ f, f = y / 1024 := ⟨_, rfl⟩
  rw [← hf] at FY
  obtain ⟨h16, hh16⟩ : ∃ h16, h16 = y / 16 := ⟨_, rfl⟩
  obtain ⟨hb, hhb⟩ : ∃ hb, hb = y / 8 := ⟨_, rfl⟩
  obtain ⟨a1', a1⟩ := hx_div16 y h16 hh16 hyl
  obtain ⟨a2', a2⟩ := hx_div8 y hb hhb hyl
  obtain ⟨q0, q1, qF⟩ := hx_frames F hF
  clear htb hkk hx hx8 hxx g1 g2
  obtain ⟨k1, k1t⟩ := hx_mod y _ e1
  have k2n : h16 % 2 = 1 := by rw [hh16]; exact e2
  obtain ⟨k2, k2t⟩ := hx_mod h16 _ k2n
  clear k2n
  have k3n : hb % 2 = 1 := by rw [hhb]; exact e3
  obtain ⟨k3, k3t⟩ := hx_mod hb _ k3n
  clear k3n
  have k4m : f < F := by rw [hf]; exact e4
  have k4n : ¬ F ≤ f := Nat.not_le.2 k4m
  have k4 : decide ((F : Int) ≤ (f : Int)) = false := decide_eq_false (by exact_mod_cast k4n)
  rw [← hf]
  obtain ⟨z1, z2, z3⟩ := hx_sum f at_ (Nat.lt_of_lt_of_le k4m hF)
  rw [z3]
  clear z3
  have LF := Lib.hid LF; have WD := Lib.hid WD; have FY := Lib.hid FY
  clear h hr hy hyl hf hh16 hhb e1 e2 e3 e4
  go_enter Tryz.func37, Tryz.ntmps37
  go_wp2_with fail
  refine HR.out.mono ?_
  rintro e w' ⟨rfl, rfl⟩
  go_wp2_with fail
  refine LF.out.mono ?_
  rintro e w4 ⟨rfl, m4, c4⟩
  have M4 := Lib.hid (And.intro m4 c4); clear m4 c4
  go_wp2_with fail
  refine (WD.out w4 M4.out.1).mono ?_
  rintro e w5 ⟨rfl, m5, c5⟩
  obtain ⟨g, _, _, c0, _⟩ := m5.fields
  have M5 := Lib.hid (And.intro m5 (M4.out.2.trans c5)); clear m5 c5
  generalize IntKind.u64.wrap ((x : Int) / 256) = X1 at *
  generalize (x : Int) % 256 / 8 = X2 at *
  generalize (x : Int) % 256 = X3 at *
  have N5 := Lib.hid ((Chg.refl (fun _ => False) w5).alloc (.cells #[.int .u64 2, .int .u64 4, .int .u64 8] 26))
  have c1 : (w5.alloc (.cells #[.int .u64 2, .int .u64 4, .int .u64 8] 26)).cell? ⟨r, 0, none⟩ = some (.slice (some ⟨g, 0, none⟩) (F * 256) (F * 256)) := by rw [N5.out.cell (cell_lt c0) (fun h => h)]; exact c0
  go_wp2_with fail
  go_quiet ((go_at_call 69; exact quiet_left (FY.out _)))
  go_wp2_with fail
  refine (FY.out _).mono ?_
  rintro e w' ⟨rfl, rfl⟩
  go_wp2_with fail
  go_ret2
  exact ⟨rfl, (M5.out.1.nothing N5.out).nothing (drawn_chg ⟨_, rfl⟩), M5.out.2.trans (N5.out.mono (fun _ h => h.elim)) |>.drewN _⟩

theorem rwalk_in3 (S : Nat → Prop) (w : World) (r F : Nat) (U : Nat → Nat) (h : RX S w r F U) (hF : F ≤ 256) (root : Nat) (hr : root < F) (at_ : Nat) (ha : at_ < 8388608) :
    Calls Tryz.prog 37 #[.pointer (some ⟨r, 0, none⟩), .int .i64 root, .int .u64 at_, .int .i64 3] w (StepR S w r F U (lfVal (tbWalk U F root at_ 3))) := by
  cases hl : tbLeaf U F root at_ with
  | none =>
    rw [wk_none hl]
    exact rwalk_none3 S w r F U h hF root hr at_ ha hl
  | some x =>
    have LF := rleaf_in S w r F U h hF root hr at_ ha
    rw [hl] at LF
    rw [wk_some hl]
    have hx := tbLeaf_lt hl
    have hx8 := tbLeaf_mod8 hl
    have hmay : ∀ y, tbMay F y 3 = decide (y % 2 ≠ 0 ∧ y / 16 % 2 ≠ 0 ∧ y / 8 % 2 ≠ 0 ∧ y / 1024 < F) := fun y => by unfold tbMay; rw [show 2 ^ 3 = 8 from rfl]
    have hno : ∀ y, ¬ (y % 2 ≠ 0 ∧ y / 16 % 2 ≠ 0 ∧ y / 8 % 2 ≠ 0 ∧ y / 1024 < F) → (if tbMay F y 3 = true then some (y / 1024 * 256 + at_ % 256) else none) = none := fun y hn => by rw [hmay, decide_eq_false hn]; rfl
    have hyes : ∀ y, (y % 2 ≠ 0 ∧ y / 16 % 2 ≠ 0 ∧ y / 8 % 2 ≠ 0 ∧ y / 1024 < F) → (if tbMay F y 3 = true then some (y / 1024 * 256 + at_ % 256) else none) = some (y / 1024 * 256 + at_ % 256) := fun y hn => by rw [hmay, decide_eq_true hn]; rfl
    obtain ⟨y, hy⟩ : ∃ y, entV U x = y := ⟨_, rfl⟩
    rw [hy]
    by_cases e1 : y % 2 = 0
    · rw [hno y (by omega)]; exact rwalk_a3 S w r F U h hF root hr at_ x y hx hx8 hy LF e1
    by_cases e2 : y / 16 % 2 = 0
    · rw [hno y (by omega)]; exact rwalk_b3 S w r F U h hF root hr at_ x y hx hx8 hy LF (by omega) e2
    by_cases e3 : y / 8 % 2 = 0
    · rw [hno y (by omega)]; exact rwalk_c3 S w r F U h hF root hr at_ x y hx hx8 hy LF (by omega) (by omega) e3
    by_cases e4 : F ≤ y / 1024
    · rw [hno y (by omega)]; exact rwalk_d3 S w r F U h hF root hr at_ x y hx hx8 hy LF (by omega) (by omega) (by omega) e4
    · rw [hyes y ⟨e1, e2, e3, by omega⟩]; exact rwalk_e3 S w r F U h hF root hr at_ x y hx hx8 hy LF (by omega) (by omega) (by omega) (by omega)

/-- whatever it is asked of -/
theorem rx_same {S : Nat → Prop} {P : Program} {f : FuncId} {args : Array Value} {w : World} {r F : Nat} {U : Nat → Nat} {v : Value} (h : RX S w r F U) (c : Calls P f args w fun e w' => e = .returned v ∧ w = w') : Calls P f args w (StepR S w r F U v) :=
  c.mono fun _ _ ⟨h1, h2⟩ => by subst h2; exact ⟨h1, h, Chg.refl _ _⟩
theorem rlf_all (S : Nat → Prop) (w : World) (r F : Nat) (U : Nat → Nat) (h : RX S w r F U) (hF : F ≤ 256) (root : Int) (at_ : Nat) :
    Calls Tryz.prog 67 #[.pointer (some ⟨r, 0, none⟩), .int .i64 root, .int .u64 at_] w (StepR S w r F U (lfR U F root at_)) := by
  unfold lfR
  by_cases h1 : root < 0 ∨ (F : Int) ≤ root
  · rw [if_pos h1]
    exact rx_same h (rleaf_root S w r F U h hF root h1 at_)
  · rw [if_neg h1]
    obtain ⟨n, rfl⟩ := Int.eq_ofNat_of_zero_le (show 0 ≤ root by omega)
    by_cases h2 : 8388608 ≤ at_
    · rw [if_pos h2]
      exact rx_same h (rleaf_beyond S w r F U h hF n (by omega) at_ h2)
    · rw [if_neg h2, Int.toNat_natCast]
      exact rleaf_in S w r F U h hF n (by omega) at_ (by omega)
theorem rwk_all (S : Nat → Prop) (w : World) (r F : Nat) (U : Nat → Nat) (h : RX S w r F U) (hF : F ≤ 256) (root : Int) (at_ : Nat) (acc : Int) :
    Calls Tryz.prog 37 #[.pointer (some ⟨r, 0, none⟩), .int .i64 root, .int .u64 at_, .int .i64 acc] w (StepR S w r F U (wkR U F root at_ acc)) := by
  unfold wkR
  by_cases h1 : root < 0 ∨ (F : Int) ≤ root
  · rw [if_pos (by omega)]
    exact rx_same h (rwalk_root S w r F U h hF root h1 at_ acc)
  · obtain ⟨n, rfl⟩ := Int.eq_ofNat_of_zero_le (show 0 ≤ root by omega)
    by_cases h3 : acc < 1 ∨ 3 < acc
    · rw [if_pos (by omega)]
      exact rx_same h (rwalk_acc S w r F U h hF n (by omega) at_ acc h3)
    · rw [if_neg (by omega)]
      by_cases h2 : 8388608 ≤ at_
      · rw [if_pos h2]
        rcases (show acc = 1 ∨ acc = 2 ∨ acc = 3 by omega) with rfl | rfl | rfl
        · exact rx_same h (rwalk_beyond1 S w r F U h hF n (by omega) at_ h2)
        · exact rx_same h (rwalk_beyond2 S w r F U h hF n (by omega) at_ h2)
        · exact rx_same h (rwalk_beyond3 S w r F U h hF n (by omega) at_ h2)
      · rw [if_neg h2, Int.toNat_natCast]
        rcases (show acc = 1 ∨ acc = 2 ∨ acc = 3 by omega) with rfl | rfl | rfl
        · exact rwalk_in1 S w r F U h hF n (by omega) at_ (by omega)
        · exact rwalk_in2 S w r F U h hF n (by omega) at_ (by omega)
        · exact rwalk_in3 S w r F U h hF n (by omega) at_ (by omega)
end Go.Proofs.YtijooajhjcfneaaGreat
