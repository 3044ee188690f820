/-
  The document's Leaf by its contract.
-/
import Derived.Test.YtodjmfmenfncdaaRyWk1
namespace Go.Proofs.Ytodjmfmenfncdaa
open Go.RowKit

set_option maxRecDepth 100000 in
theorem rleaf_root (S : Nat → Prop) (w : World) (r F : Nat) (U : Nat → Nat) (h : RX S w r F U) (hF : F ≤ 256) (root : Int) (hr : root < 0 ∨ (F : Int) ≤ root) (at_ : Int) :
    Calls Try.prog 17 #[.pointer (some ⟨r, 0, none⟩), .int .i64 root, .int .u64 at_] w fun e w' => e = .returned (errV 1) ∧ w = w' := by
  have HR := rw_root S w r F U h hF root
  rw [decide_eq_false (show ¬ (0 ≤ root ∧ root < (F : Int)) by omega)] at HR
  have HR := Lib.hid HR
  clear h hr
  unfold errV
  go_enter Try.func17, Try.ntmps17
  go_wp2_with fail
  refine HR.out.mono ?_
  rintro e w' ⟨rfl, rfl⟩
  go_wp2_with fail
  go_ret2
  exact ⟨rfl, rfl⟩
set_option maxRecDepth 100000 in
theorem rleaf_beyond (S : Nat → Prop) (w : World) (r F : Nat) (U : Nat → Nat) (h : RX S w r F U) (hF : F ≤ 256) (root : Nat) (hr : root < F) (at_ : Nat) (ha : 8388608 ≤ at_) :
    Calls Try.prog 17 #[.pointer (some ⟨r, 0, none⟩), .int .i64 root, .int .u64 at_] w fun e w' => e = .returned (errV 3) ∧ w = w' := by
  have HR := rw_root S w r F U h hF root
  rw [decide_eq_true (show (0 : Int) ≤ root ∧ (root : Int) < (F : Int) by omega)] at HR
  have HR := Lib.hid HR
  have d4 : decide ((8388608 : Int) ≤ (at_ : Int)) = true := decide_eq_true (by omega)
  clear h hr
  unfold errV
  go_enter Try.func17, Try.ntmps17
  go_wp2_with fail
  refine HR.out.mono ?_
  rintro e w' ⟨rfl, rfl⟩
  go_wp2_with fail
  go_ret2
  exact ⟨rfl, rfl⟩

theorem div262144 (x : Nat) : x / 256 / 32 ^ 2 = x / 262144 := Nat.div_div_eq_div_mul x 256 (32 ^ 2)
theorem div8192 (x : Nat) : x / 256 / 32 ^ 1 = x / 8192 := Nat.div_div_eq_div_mul x 256 (32 ^ 1)
theorem rw_part2 (w : World) (at_ : Nat) (h : at_ < 8388608) :
    Calls Try.prog 41 #[.int .u64 at_, .int .i64 2] w fun e w' => e = .returned (.int .i64 (at_ / 262144 % 32 : Nat)) ∧ w = w' := by
  have k := rw_part w at_ h 2 (by omega)
  rw [div262144] at k
  exact k
theorem rw_part1 (w : World) (at_ : Nat) (h : at_ < 8388608) :
    Calls Try.prog 41 #[.int .u64 at_, .int .i64 1] w fun e w' => e = .returned (.int .i64 (at_ / 8192 % 32 : Nat)) ∧ w = w' := by
  have k := rw_part w at_ h 1 (by omega)
  rw [div8192] at k
  exact k
theorem rw_part0 (w : World) (at_ : Nat) (h : at_ < 8388608) :
    Calls Try.prog 41 #[.int .u64 at_, .int .i64 0] w fun e w' => e = .returned (.int .i64 (at_ / 256 % 32 : Nat)) ∧ w = w' := by
  have k := rw_part w at_ h 0 (by omega)
  rw [Nat.pow_zero, Nat.div_one] at k
  exact k
set_option maxRecDepth 100000 in
set_option maxHeartbeats 1600000 in
theorem rleaf_c1 (S : Nat → Prop) (w : World) (r F : Nat) (U : Nat → Nat) (h : RX S w r F U) (hF : F ≤ 256) (root : Nat) (hr : root < F) (at_ : Nat) (ha : at_ < 8388608) (c0' c1' c2' : Nat) (k0 : c0' < 32) (k1 : c1' < 32) (k2 : c2' < 32) (res : Option Nat)
    (P2 : ∀ W, Calls Try.prog 41 #[.int .u64 at_, .int .i64 2] W fun e w' => e = .returned (.int .i64 (c2' : Nat)) ∧ W = w')
    (P1 : ∀ W, Calls Try.prog 41 #[.int .u64 at_, .int .i64 1] W fun e w' => e = .returned (.int .i64 (c1' : Nat)) ∧ W = w')
    (P0 : ∀ W, Calls Try.prog 41 #[.int .u64 at_, .int .i64 0] W fun e w' => e = .returned (.int .i64 (c0' : Nat)) ∧ W = w')
    (hn : tbGo F (entV U (root * 256 + 8 * c2')) = none) (n1 : tbGo F (entV U (root * 256 + 8 * c2')) = none → res = none)
    (n2 : ∀ a, tbGo F (entV U (root * 256 + 8 * c2')) = some a → tbGo F (entV U (a * 256 + 8 * c1')) = none → res = none)
    (n3 : ∀ a b, tbGo F (entV U (root * 256 + 8 * c2')) = some a → tbGo F (entV U (a * 256 + 8 * c1')) = some b → res = some (b * 256 + 8 * c0')) :
    Calls Try.prog 17 #[.pointer (some ⟨r, 0, none⟩), .int .i64 root, .int .u64 at_] w (StepR S w r F U (lfVal res)) := by
  have HR := rw_root S w r F U h hF root
  rw [decide_eq_true (show (0 : Int) ≤ root ∧ (root : Int) < (F : Int) by omega)] at HR
  have WD := Lib.hid (fun W (H : RX S W r F U) tb k ht hk => rw_word S W r F U H hF tb k ht hk)
  have FE := Lib.hid (fun W e he => rw_frame W e he)
  obtain ⟨g, c0, _, _⟩ := (show ∃ g, w.cell? ⟨r, 0, none⟩ = some (.slice (some ⟨g, 0, none⟩) (F * 256) (F * 256)) ∧ True ∧ True by obtain ⟨g, _, _, a, _⟩ := h.fields; exact ⟨g, a, trivial, trivial⟩)
  have q0 : ((F : Int) * 256).tdiv 256 = (F : Int) := Int.mul_tdiv_cancel _ (by decide)
  have q1 : wrap64 (F : Int) = (F : Int) := by unfold wrap64; omega
  have qF : IntKind.u64.wrap (F : Int) = (F : Int) := by rw [u64_wrap]; omega
  have qr : IntKind.u64.wrap (root : Int) = (root : Int) := by rw [u64_wrap]; omega
  have d4 : decide ((8388608 : Int) ≤ (at_ : Int)) = false := decide_eq_false (by omega)
  have d5 : ¬ 8388608 ≤ at_ := by omega
  have N1 := Lib.hid n1; have N2 := Lib.hid n2; have N3 := Lib.hid n3
  clear n1 n2 n3
  have HX := Lib.hid h
  have HB := Lib.hid (And.intro hF (And.intro hr (And.intro k0 (And.intro k1 k2))))
  have P0 := Lib.hid P0; have P1 := Lib.hid P1; have P2 := Lib.hid P2; have HR := Lib.hid HR
  clear h ha hF hr k0 k1 k2
  have W0 := Lib.hid (WD.out w HX.out root c2' HB.out.2.1 HB.out.2.2.2.2)
  have hy0 := entV_lt U (root * 256 + 8 * c2')
  generalize hyy : entV U (root * 256 + 8 * c2') = y at *
  have HYY := Lib.hid hyy; have HY0 := Lib.hid hy0
  clear hyy hy0
  have w2y : IntKind.u64.wrap ((y : Int) / 2) = (y : Int) / 2 := by have := HY0.out; rw [u64_wrap]; omega
  have hgo : tbGo F y = if y % 2 = 0 ∨ y / 2 % 8 ≠ 0 ∨ F ≤ y / 1024 then none else some (y / 1024) := rfl
  have HGOy := Lib.hid hgo
  clear hgo
  by_cases e1 : y % 2 = 0
  · have hg : tbGo F y = none := by rw [HGOy.out, if_pos (.inl e1)]
    have hres := N1.out hg
    subst hres
    simp only [lfVal]
    have k1y : (y : Int) % 2 = 0 := by omega
    clear hg e1
    go_enter Try.func17, Try.ntmps17
    go_wp2_with fail
    refine HR.out.mono ?_
    rintro e w' ⟨rfl, rfl⟩
    go_wp2_with fail
    refine (P2.out w).mono ?_
    rintro e w' ⟨rfl, rfl⟩
    go_wp2_with fail
    refine W0.out.mono ?_
    rintro e w4 ⟨rfl, m4, c4⟩
    have M4 := Lib.hid (And.intro m4 c4); clear m4 c4
    go_wp2_with fail
    go_ret2
    exact ⟨rfl, M4.out⟩
  have e1' : y % 2 = 1 := by omega
  have k1y : (y : Int) % 2 = 1 := by omega
  by_cases e2 : y / 2 % 8 = 0
  · have k2y : (y : Int) / 2 % 8 = 0 := by omega
    have FYx := fun W => FE.out W y HY0.out
    by_cases e3 : F ≤ y / 1024
    · have hg : tbGo F y = none := by rw [HGOy.out, if_pos (.inr (.inr e3))]
      have hres := N1.out hg
      subst hres
      simp only [lfVal]
      generalize y / 1024 = fy at *
      have FY := Lib.hid FYx
      have d7y : decide ((F : Int) ≤ (fy : Int)) = true := decide_eq_true (by omega)
      clear hg e1 e1' e2 FYx
      go_enter Try.func17, Try.ntmps17
      go_wp2_with fail
      refine HR.out.mono ?_
      rintro e w' ⟨rfl, rfl⟩
      go_wp2_with fail
      refine (P2.out w).mono ?_
      rintro e w' ⟨rfl, rfl⟩
      go_wp2_with fail
      refine W0.out.mono ?_
      rintro e w4 ⟨rfl, m4, c4⟩
      have M4 := Lib.hid (And.intro m4 c4); clear m4 c4
      go_wp2_with fail
      refine (FY.out w4).mono ?_
      rintro e w' ⟨rfl, rfl⟩
      go_wp2_with fail
      go_ret2
      exact ⟨rfl, M4.out⟩
    · have hg : tbGo F y = some (y / 1024) := by rw [HGOy.out, if_neg (by rintro (h | h | h); exact e1 h; exact h e2; exact e3 h)]
      rw [hn] at hg; cases hg
  · have hg : tbGo F y = none := by rw [HGOy.out, if_pos (.inr (.inl e2))]
    have hres := N1.out hg
    subst hres
    simp only [lfVal]
    obtain ⟨hq, hhq⟩ : ∃ hq : Nat, hq = y / 2 := ⟨_, rfl⟩
    obtain ⟨zq, hzq⟩ : ∃ zq : Nat, zq = hq % 8 := ⟨_, rfl⟩
    have d6 : ((zq : Int) != 0) = true := by simp; omega
    have d6' : ¬ zq = 0 := by omega
    have w4 : IntKind.u64.wrap ((y : Int) / 2) = (hq : Int) := by rw [w2y]; omega
    have w5 : (hq : Int) % 8 = (zq : Int) := by omega
    have w6 : (hq : Int).tmod 8 = (zq : Int) := by rw [Int.tmod_eq_emod_of_nonneg (by omega)]; omega
    clear w2y hhq hzq e2
    clear hg e1 e1'
    go_enter Try.func17, Try.ntmps17
    go_wp2_with fail
    refine HR.out.mono ?_
    rintro e w' ⟨rfl, rfl⟩
    go_wp2_with fail
    refine (P2.out w).mono ?_
    rintro e w' ⟨rfl, rfl⟩
    go_wp2_with fail
    refine W0.out.mono ?_
    rintro e w4 ⟨rfl, m4, c4⟩
    have M4 := Lib.hid (And.intro m4 c4); clear m4 c4
    go_wp2_with fail
    go_ret2
    exact ⟨rfl, M4.out⟩

set_option maxRecDepth 100000 in
set_option maxHeartbeats 1600000 in
theorem rleaf_c2 (S : Nat → Prop) (w : World) (r F : Nat) (U : Nat → Nat) (h : RX S w r F U) (hF : F ≤ 256) (root : Nat) (hr : root < F) (at_ : Nat) (ha : at_ < 8388608) (c0' c1' c2' : Nat) (k0 : c0' < 32) (k1 : c1' < 32) (k2 : c2' < 32) (res : Option Nat)
    (P2 : ∀ W, Calls Try.prog 41 #[.int .u64 at_, .int .i64 2] W fun e w' => e = .returned (.int .i64 (c2' : Nat)) ∧ W = w')
    (P1 : ∀ W, Calls Try.prog 41 #[.int .u64 at_, .int .i64 1] W fun e w' => e = .returned (.int .i64 (c1' : Nat)) ∧ W = w')
    (P0 : ∀ W, Calls Try.prog 41 #[.int .u64 at_, .int .i64 0] W fun e w' => e = .returned (.int .i64 (c0' : Nat)) ∧ W = w')
    (a0 : Nat) (hs : tbGo F (entV U (root * 256 + 8 * c2')) = some a0) (hn2 : ∀ a, tbGo F (entV U (root * 256 + 8 * c2')) = some a → tbGo F (entV U (a * 256 + 8 * c1')) = none) (n1 : tbGo F (entV U (root * 256 + 8 * c2')) = none → res = none)
    (n2 : ∀ a, tbGo F (entV U (root * 256 + 8 * c2')) = some a → tbGo F (entV U (a * 256 + 8 * c1')) = none → res = none)
    (n3 : ∀ a b, tbGo F (entV U (root * 256 + 8 * c2')) = some a → tbGo F (entV U (a * 256 + 8 * c1')) = some b → res = some (b * 256 + 8 * c0')) :
    Calls Try.prog 17 #[.pointer (some ⟨r, 0, none⟩), .int .i64 root, .int .u64 at_] w (StepR S w r F U (lfVal res)) := by
  have HR := rw_root S w r F U h hF root
  rw [decide_eq_true (show (0 : Int) ≤ root ∧ (root : Int) < (F : Int) by omega)] at HR
  have WD := Lib.hid (fun W (H : RX S W r F U) tb k ht hk => rw_word S W r F U H hF tb k ht hk)
  have FE := Lib.hid (fun W e he => rw_frame W e he)
  obtain ⟨g, c0, _, _⟩ := (show ∃ g, w.cell? ⟨r, 0, none⟩ = some (.slice (some ⟨g, 0, none⟩) (F * 256) (F * 256)) ∧ True ∧ True by obtain ⟨g, _, _, a, _⟩ := h.fields; exact ⟨g, a, trivial, trivial⟩)
  have q0 : ((F : Int) * 256).tdiv 256 = (F : Int) := Int.mul_tdiv_cancel _ (by decide)
  have q1 : wrap64 (F : Int) = (F : Int) := by unfold wrap64; omega
  have qF : IntKind.u64.wrap (F : Int) = (F : Int) := by rw [u64_wrap]; omega
  have qr : IntKind.u64.wrap (root : Int) = (root : Int) := by rw [u64_wrap]; omega
  have d4 : decide ((8388608 : Int) ≤ (at_ : Int)) = false := decide_eq_false (by omega)
  have d5 : ¬ 8388608 ≤ at_ := by omega
  have N1 := Lib.hid n1; have N2 := Lib.hid n2; have N3 := Lib.hid n3
  clear n1 n2 n3
  have HX := Lib.hid h
  have HB := Lib.hid (And.intro hF (And.intro hr (And.intro k0 (And.intro k1 k2))))
  have P0 := Lib.hid P0; have P1 := Lib.hid P1; have P2 := Lib.hid P2; have HR := Lib.hid HR
  clear h ha hF hr k0 k1 k2
  have W0 := Lib.hid (WD.out w HX.out root c2' HB.out.2.1 HB.out.2.2.2.2)
  have hy0 := entV_lt U (root * 256 + 8 * c2')
  generalize hyy : entV U (root * 256 + 8 * c2') = y at *
  have HYY := Lib.hid hyy; have HY0 := Lib.hid hy0
  clear hyy hy0
  have w2y : IntKind.u64.wrap ((y : Int) / 2) = (y : Int) / 2 := by have := HY0.out; rw [u64_wrap]; omega
  have hgo : tbGo F y = if y % 2 = 0 ∨ y / 2 % 8 ≠ 0 ∨ F ≤ y / 1024 then none else some (y / 1024) := rfl
  have HGOy := Lib.hid hgo
  clear hgo
  by_cases e1 : y % 2 = 0
  · have hg : tbGo F y = none := by rw [HGOy.out, if_pos (.inl e1)]
    rw [hs] at hg; cases hg
  have e1' : y % 2 = 1 := by omega
  have k1y : (y : Int) % 2 = 1 := by omega
  by_cases e2 : y / 2 % 8 = 0
  · have k2y : (y : Int) / 2 % 8 = 0 := by omega
    have FYx := fun W => FE.out W y HY0.out
    by_cases e3 : F ≤ y / 1024
    · have hg : tbGo F y = none := by rw [HGOy.out, if_pos (.inr (.inr e3))]
      rw [hs] at hg; cases hg
    · have hg : tbGo F y = some (y / 1024) := by rw [HGOy.out, if_neg (by rintro (h | h | h); exact e1 h; exact h e2; exact e3 h)]
      generalize y / 1024 = fy at *
      have FY := Lib.hid FYx
      have d7y : decide ((F : Int) ≤ (fy : Int)) = false := decide_eq_false (by omega)
      have d8y : ¬ F ≤ fy := e3
      have HGy := Lib.hid hg
      clear hg e1 e1' e2 FYx
      have W1 := fun W (H : RX S W r F U) => WD.out W H fy c1' (by omega) HB.out.2.2.2.1
      have hv0 := entV_lt U (fy * 256 + 8 * c1')
      generalize hvv : entV U (fy * 256 + 8 * c1') = v at *
      have HVV := Lib.hid hvv; have HV0 := Lib.hid hv0
      have W1 := Lib.hid W1
      clear hvv hv0
      have w2v : IntKind.u64.wrap ((v : Int) / 2) = (v : Int) / 2 := by have := HV0.out; rw [u64_wrap]; omega
      have hgo : tbGo F v = if v % 2 = 0 ∨ v / 2 % 8 ≠ 0 ∨ F ≤ v / 1024 then none else some (v / 1024) := rfl
      have HGOv := Lib.hid hgo
      clear hgo
      by_cases e1 : v % 2 = 0
      · have hg : tbGo F v = none := by rw [HGOv.out, if_pos (.inl e1)]
        have hres := N2.out fy HGy.out (by rw [HVV.out]; exact hg)
        subst hres
        simp only [lfVal]
        have k1v : (v : Int) % 2 = 0 := by omega
        clear hg e1
        go_enter Try.func17, Try.ntmps17
        go_wp2_with fail
        refine HR.out.mono ?_
        rintro e w' ⟨rfl, rfl⟩
        go_wp2_with fail
        refine (P2.out w).mono ?_
        rintro e w' ⟨rfl, rfl⟩
        go_wp2_with fail
        refine W0.out.mono ?_
        rintro e w4 ⟨rfl, m4, c4⟩
        have M4 := Lib.hid (And.intro m4 c4); clear m4 c4
        go_wp2_with fail
        refine (FY.out w4).mono ?_
        rintro e w' ⟨rfl, rfl⟩
        go_wp2_with fail
        refine (FY.out w4).mono ?_
        rintro e w' ⟨rfl, rfl⟩
        go_wp2_with fail
        refine (P1.out w4).mono ?_
        rintro e w' ⟨rfl, rfl⟩
        go_wp2_with fail
        refine (W1.out w4 M4.out.1).mono ?_
        rintro e w5 ⟨rfl, m5, c5⟩
        have M5 := Lib.hid (And.intro m5 (M4.out.2.trans c5)); clear m5 c5
        go_wp2_with fail
        go_ret2
        exact ⟨rfl, M5.out⟩
      have e1' : v % 2 = 1 := by omega
      have k1v : (v : Int) % 2 = 1 := by omega
      by_cases e2 : v / 2 % 8 = 0
      · have k2v : (v : Int) / 2 % 8 = 0 := by omega
        have FYx := fun W => FE.out W v HV0.out
        by_cases e3 : F ≤ v / 1024
        · have hg : tbGo F v = none := by rw [HGOv.out, if_pos (.inr (.inr e3))]
          have hres := N2.out fy HGy.out (by rw [HVV.out]; exact hg)
          subst hres
          simp only [lfVal]
          generalize v / 1024 = fv at *
          have FV := Lib.hid FYx
          have d7v : decide ((F : Int) ≤ (fv : Int)) = true := decide_eq_true (by omega)
          clear hg e1 e1' e2 FYx
          go_enter Try.func17, Try.ntmps17
          go_wp2_with fail
          refine HR.out.mono ?_
          rintro e w' ⟨rfl, rfl⟩
          go_wp2_with fail
          refine (P2.out w).mono ?_
          rintro e w' ⟨rfl, rfl⟩
          go_wp2_with fail
          refine W0.out.mono ?_
          rintro e w4 ⟨rfl, m4, c4⟩
          have M4 := Lib.hid (And.intro m4 c4); clear m4 c4
          go_wp2_with fail
          refine (FY.out w4).mono ?_
          rintro e w' ⟨rfl, rfl⟩
          go_wp2_with fail
          refine (FY.out w4).mono ?_
          rintro e w' ⟨rfl, rfl⟩
          go_wp2_with fail
          refine (P1.out w4).mono ?_
          rintro e w' ⟨rfl, rfl⟩
          go_wp2_with fail
          refine (W1.out w4 M4.out.1).mono ?_
          rintro e w5 ⟨rfl, m5, c5⟩
          have M5 := Lib.hid (And.intro m5 (M4.out.2.trans c5)); clear m5 c5
          go_wp2_with fail
          refine (FV.out w5).mono ?_
          rintro e w' ⟨rfl, rfl⟩
          go_wp2_with fail
          go_ret2
          exact ⟨rfl, M5.out⟩
        · have hg : tbGo F v = some (v / 1024) := by rw [HGOv.out, if_neg (by rintro (h | h | h); exact e1 h; exact h e2; exact e3 h)]
          have h9 := hn2 _ HGy.out; rw [HVV.out, hg] at h9; cases h9
      · have hg : tbGo F v = none := by rw [HGOv.out, if_pos (.inr (.inl e2))]
        have hres := N2.out fy HGy.out (by rw [HVV.out]; exact hg)
        subst hres
        simp only [lfVal]
        obtain ⟨hq, hhq⟩ : ∃ hq : Nat, hq = v / 2 := ⟨_, rfl⟩
        obtain ⟨zq, hzq⟩ : ∃ zq : Nat, zq = hq % 8 := ⟨_, rfl⟩
        have d6 : ((zq : Int) != 0) = true := by simp; omega
        have d6' : ¬ zq = 0 := by omega
        have w4 : IntKind.u64.wrap ((v : Int) / 2) = (hq : Int) := by rw [w2v]; omega
        have w5 : (hq : Int) % 8 = (zq : Int) := by omega
        have w6 : (hq : Int).tmod 8 = (zq : Int) := by rw [Int.tmod_eq_emod_of_nonneg (by omega)]; omega
        clear w2v hhq hzq e2
        clear hg e1 e1'
        go_enter Try.func17, Try.ntmps17
        go_wp2_with fail
        refine HR.out.mono ?_
        rintro e w' ⟨rfl, rfl⟩
        go_wp2_with fail
        refine (P2.out w).mono ?_
        rintro e w' ⟨rfl, rfl⟩
        go_wp2_with fail
        refine W0.out.mono ?_
        rintro e w4 ⟨rfl, m4, c4⟩
        have M4 := Lib.hid (And.intro m4 c4); clear m4 c4
        go_wp2_with fail
        refine (FY.out w4).mono ?_
        rintro e w' ⟨rfl, rfl⟩
        go_wp2_with fail
        refine (FY.out w4).mono ?_
        rintro e w' ⟨rfl, rfl⟩
        go_wp2_with fail
        refine (P1.out w4).mono ?_
        rintro e w' ⟨rfl, rfl⟩
        go_wp2_with fail
        refine (W1.out w4 M4.out.1).mono ?_
        rintro e w5 ⟨rfl, m5, c5⟩
        have M5 := Lib.hid (And.intro m5 (M4.out.2.trans c5)); clear m5 c5
        go_wp2_with fail
        go_ret2
        exact ⟨rfl, M5.out⟩
  · have hg : tbGo F y = none := by rw [HGOy.out, if_pos (.inr (.inl e2))]
    rw [hs] at hg; cases hg
set_option maxRecDepth 100000 in
set_option maxHeartbeats 1600000 in
theorem rleaf_c3 (S : Nat → Prop) (w : World) (r F : Nat) (U : Nat → Nat) (h : RX S w r F U) (hF : F ≤ 256) (root : Nat) (hr : root < F) (at_ : Nat) (ha : at_ < 8388608) (c0' c1' c2' : Nat) (k0 : c0' < 32) (k1 : c1' < 32) (k2 : c2' < 32) (res : Option Nat)
    (P2 : ∀ W, Calls Try.prog 41 #[.int .u64 at_, .int .i64 2] W fun e w' => e = .returned (.int .i64 (c2' : Nat)) ∧ W = w')
    (P1 : ∀ W, Calls Try.prog 41 #[.int .u64 at_, .int .i64 1] W fun e w' => e = .returned (.int .i64 (c1' : Nat)) ∧ W = w')
    (P0 : ∀ W, Calls Try.prog 41 #[.int .u64 at_, .int .i64 0] W fun e w' => e = .returned (.int .i64 (c0' : Nat)) ∧ W = w')
    (a0 : Nat) (hs : tbGo F (entV U (root * 256 + 8 * c2')) = some a0) (hn2 : ∀ a, tbGo F (entV U (root * 256 + 8 * c2')) = some a → tbGo F (entV U (a * 256 + 8 * c1')) ≠ none) (n1 : tbGo F (entV U (root * 256 + 8 * c2')) = none → res = none)
    (n2 : ∀ a, tbGo F (entV U (root * 256 + 8 * c2')) = some a → tbGo F (entV U (a * 256 + 8 * c1')) = none → res = none)
    (n3 : ∀ a b, tbGo F (entV U (root * 256 + 8 * c2')) = some a → tbGo F (entV U (a * 256 + 8 * c1')) = some b → res = some (b * 256 + 8 * c0')) :
    Calls Try.prog 17 #[.pointer (some ⟨r, 0, none⟩), .int .i64 root, .int .u64 at_] w (StepR S w r F U (lfVal res)) := by
  have HR := rw_root S w r F U h hF root
  rw [decide_eq_true (show (0 : Int) ≤ root ∧ (root : Int) < (F : Int) by omega)] at HR
  have WD := Lib.hid (fun W (H : RX S W r F U) tb k ht hk => rw_word S W r F U H hF tb k ht hk)
  have FE := Lib.hid (fun W e he => rw_frame W e he)
  obtain ⟨g, c0, _, _⟩ := (show ∃ g, w.cell? ⟨r, 0, none⟩ = some (.slice (some ⟨g, 0, none⟩) (F * 256) (F * 256)) ∧ True ∧ True by obtain ⟨g, _, _, a, _⟩ := h.fields; exact ⟨g, a, trivial, trivial⟩)
  have q0 : ((F : Int) * 256).tdiv 256 = (F : Int) := Int.mul_tdiv_cancel _ (by decide)
  have q1 : wrap64 (F : Int) = (F : Int) := by unfold wrap64; omega
  have qF : IntKind.u64.wrap (F : Int) = (F : Int) := by rw [u64_wrap]; omega
  have qr : IntKind.u64.wrap (root : Int) = (root : Int) := by rw [u64_wrap]; omega
  have d4 : decide ((8388608 : Int) ≤ (at_ : Int)) = false := decide_eq_false (by omega)
  have d5 : ¬ 8388608 ≤ at_ := by omega
  have N1 := Lib.hid n1; have N2 := Lib.hid n2; have N3 := Lib.hid n3
  clear n1 n2 n3
  have HX := Lib.hid h
  have HB := Lib.hid (And.intro hF (And.intro hr (And.intro k0 (And.intro k1 k2))))
  have P0 := Lib.hid P0; have P1 := Lib.hid P1; have P2 := Lib.hid P2; have HR := Lib.hid HR
  clear h ha hF hr k0 k1 k2
  have W0 := Lib.hid (WD.out w HX.out root c2' HB.out.2.1 HB.out.2.2.2.2)
  have hy0 := entV_lt U (root * 256 + 8 * c2')
  generalize hyy : entV U (root * 256 + 8 * c2') = y at *
  have HYY := Lib.hid hyy; have HY0 := Lib.hid hy0
  clear hyy hy0
  have w2y : IntKind.u64.wrap ((y : Int) / 2) = (y : Int) / 2 := by have := HY0.out; rw [u64_wrap]; omega
  have hgo : tbGo F y = if y % 2 = 0 ∨ y / 2 % 8 ≠ 0 ∨ F ≤ y / 1024 then none else some (y / 1024) := rfl
  have HGOy := Lib.hid hgo
  clear hgo
  by_cases e1 : y % 2 = 0
  · have hg : tbGo F y = none := by rw [HGOy.out, if_pos (.inl e1)]
    rw [hs] at hg; cases hg
  have e1' : y % 2 = 1 := by omega
  have k1y : (y : Int) % 2 = 1 := by omega
  by_cases e2 : y / 2 % 8 = 0
  · have k2y : (y : Int) / 2 % 8 = 0 := by omega
    have FYx := fun W => FE.out W y HY0.out
    by_cases e3 : F ≤ y / 1024
    · have hg : tbGo F y = none := by rw [HGOy.out, if_pos (.inr (.inr e3))]
      rw [hs] at hg; cases hg
    · have hg : tbGo F y = some (y / 1024) := by rw [HGOy.out, if_neg (by rintro (h | h | h); exact e1 h; exact h e2; exact e3 h)]
      generalize y / 1024 = fy at *
      have FY := Lib.hid FYx
      have d7y : decide ((F : Int) ≤ (fy : Int)) = false := decide_eq_false (by omega)
      have d8y : ¬ F ≤ fy := e3
      have HGy := Lib.hid hg
      clear hg e1 e1' e2 FYx
      have W1 := fun W (H : RX S W r F U) => WD.out W H fy c1' (by omega) HB.out.2.2.2.1
      have hv0 := entV_lt U (fy * 256 + 8 * c1')
      generalize hvv : entV U (fy * 256 + 8 * c1') = v at *
      have HVV := Lib.hid hvv; have HV0 := Lib.hid hv0
      have W1 := Lib.hid W1
      clear hvv hv0
      have w2v : IntKind.u64.wrap ((v : Int) / 2) = (v : Int) / 2 := by have := HV0.out; rw [u64_wrap]; omega
      have hgo : tbGo F v = if v % 2 = 0 ∨ v / 2 % 8 ≠ 0 ∨ F ≤ v / 1024 then none else some (v / 1024) := rfl
      have HGOv := Lib.hid hgo
      clear hgo
      by_cases e1 : v % 2 = 0
      · have hg : tbGo F v = none := by rw [HGOv.out, if_pos (.inl e1)]
        have h9 := hn2 _ HGy.out; rw [HVV.out, hg] at h9; exact absurd rfl h9
      have e1' : v % 2 = 1 := by omega
      have k1v : (v : Int) % 2 = 1 := by omega
      by_cases e2 : v / 2 % 8 = 0
      · have k2v : (v : Int) / 2 % 8 = 0 := by omega
        have FYx := fun W => FE.out W v HV0.out
        by_cases e3 : F ≤ v / 1024
        · have hg : tbGo F v = none := by rw [HGOv.out, if_pos (.inr (.inr e3))]
          have h9 := hn2 _ HGy.out; rw [HVV.out, hg] at h9; exact absurd rfl h9
        · have hg : tbGo F v = some (v / 1024) := by rw [HGOv.out, if_neg (by rintro (h | h | h); exact e1 h; exact h e2; exact e3 h)]
          generalize v / 1024 = fv at *
          have FV := Lib.hid FYx
          have d7v : decide ((F : Int) ≤ (fv : Int)) = false := decide_eq_false (by omega)
          have d8v : ¬ F ≤ fv := e3
          have HGv := Lib.hid hg
          clear hg e1 e1' e2 FYx
          have W2q1 : IntKind.u64.wrap ((fv : Int) * 256) = (fv : Int) * 256 := by have := HB.out.1; rw [u64_wrap]; omega
          have W2q2 : wrap64 (8 * (c0' : Int)) = 8 * (c0' : Int) := by have := HB.out.2.2.1; unfold wrap64; omega
          have W2q3 : IntKind.u64.wrap (8 * (c0' : Int)) = 8 * (c0' : Int) := by have := HB.out.2.2.1; rw [u64_wrap]; omega
          have W2q4 : IntKind.u64.wrap ((fv : Int) * 256 + 8 * (c0' : Int)) = (fv : Int) * 256 + 8 * (c0' : Int) := by have h1 := HB.out.1; have h2 := HB.out.2.2.1; rw [u64_wrap]; omega
          have hres := N3.out fy fv HGy.out (by rw [HVV.out]; exact HGv.out)
          subst hres
          simp only [lfVal]
          go_enter Try.func17, Try.ntmps17
          go_wp2_with fail
          refine HR.out.mono ?_
          rintro e w' ⟨rfl, rfl⟩
          go_wp2_with fail
          refine (P2.out w).mono ?_
          rintro e w' ⟨rfl, rfl⟩
          go_wp2_with fail
          refine W0.out.mono ?_
          rintro e w4 ⟨rfl, m4, c4⟩
          have M4 := Lib.hid (And.intro m4 c4); clear m4 c4
          go_wp2_with fail
          refine (FY.out w4).mono ?_
          rintro e w' ⟨rfl, rfl⟩
          go_wp2_with fail
          refine (FY.out w4).mono ?_
          rintro e w' ⟨rfl, rfl⟩
          go_wp2_with fail
          refine (P1.out w4).mono ?_
          rintro e w' ⟨rfl, rfl⟩
          go_wp2_with fail
          refine (W1.out w4 M4.out.1).mono ?_
          rintro e w5 ⟨rfl, m5, c5⟩
          have M5 := Lib.hid (And.intro m5 (M4.out.2.trans c5)); clear m5 c5
          go_wp2_with fail
          refine (FV.out w5).mono ?_
          rintro e w' ⟨rfl, rfl⟩
          go_wp2_with fail
          refine (FV.out w5).mono ?_
          rintro e w' ⟨rfl, rfl⟩
          go_wp2_with fail
          refine (P0.out w5).mono ?_
          rintro e w' ⟨rfl, rfl⟩
          go_wp2_with fail
          go_ret2
          exact ⟨by simp, M5.out⟩
      · have hg : tbGo F v = none := by rw [HGOv.out, if_pos (.inr (.inl e2))]
        have h9 := hn2 _ HGy.out; rw [HVV.out, hg] at h9; exact absurd rfl h9
  · have hg : tbGo F y = none := by rw [HGOy.out, if_pos (.inr (.inl e2))]
    rw [hs] at hg; cases hg
theorem rleaf_core (S : Nat → Prop) (w : World) (r F : Nat) (U : Nat → Nat) (h : RX S w r F U) (hF : F ≤ 256) (root : Nat) (hr : root < F) (at_ : Nat) (ha : at_ < 8388608) (c0' c1' c2' : Nat) (k0 : c0' < 32) (k1 : c1' < 32) (k2 : c2' < 32) (res : Option Nat)
    (P2 : ∀ W, Calls Try.prog 41 #[.int .u64 at_, .int .i64 2] W fun e w' => e = .returned (.int .i64 (c2' : Nat)) ∧ W = w')
    (P1 : ∀ W, Calls Try.prog 41 #[.int .u64 at_, .int .i64 1] W fun e w' => e = .returned (.int .i64 (c1' : Nat)) ∧ W = w')
    (P0 : ∀ W, Calls Try.prog 41 #[.int .u64 at_, .int .i64 0] W fun e w' => e = .returned (.int .i64 (c0' : Nat)) ∧ W = w')
    (n1 : tbGo F (entV U (root * 256 + 8 * c2')) = none → res = none)
    (n2 : ∀ a, tbGo F (entV U (root * 256 + 8 * c2')) = some a → tbGo F (entV U (a * 256 + 8 * c1')) = none → res = none)
    (n3 : ∀ a b, tbGo F (entV U (root * 256 + 8 * c2')) = some a → tbGo F (entV U (a * 256 + 8 * c1')) = some b → res = some (b * 256 + 8 * c0')) :
    Calls Try.prog 17 #[.pointer (some ⟨r, 0, none⟩), .int .i64 root, .int .u64 at_] w (StepR S w r F U (lfVal res)) := by
  cases hs : tbGo F (entV U (root * 256 + 8 * c2')) with
  | none => exact rleaf_c1 S w r F U h hF root hr at_ ha c0' c1' c2' k0 k1 k2 res P2 P1 P0 hs n1 n2 n3
  | some a0 =>
    cases h2 : tbGo F (entV U (a0 * 256 + 8 * c1')) with
    | none => exact rleaf_c2 S w r F U h hF root hr at_ ha c0' c1' c2' k0 k1 k2 res P2 P1 P0 a0 hs (fun a ha => by rw [hs] at ha; cases ha; exact h2) n1 n2 n3
    | some b0 => exact rleaf_c3 S w r F U h hF root hr at_ ha c0' c1' c2' k0 k1 k2 res P2 P1 P0 a0 hs (fun a ha => by rw [hs] at ha; cases ha; rw [h2]; exact Option.some_ne_none _) n1 n2 n3
theorem rleaf_in (S : Nat → Prop) (w : World) (r F : Nat) (U : Nat → Nat) (h : RX S w r F U) (hF : F ≤ 256) (root : Nat) (hr : root < F) (at_ : Nat) (ha : at_ < 8388608) :
    Calls Try.prog 17 #[.pointer (some ⟨r, 0, none⟩), .int .i64 root, .int .u64 at_] w (StepR S w r F U (lfVal (tbLeaf U F root at_))) :=
  rleaf_core S w r F U h hF root hr at_ ha _ _ _ (Nat.mod_lt _ (by decide)) (Nat.mod_lt _ (by decide)) (Nat.mod_lt _ (by decide)) _ (fun W => rw_part2 W at_ ha) (fun W => rw_part1 W at_ ha) (fun W => rw_part0 W at_ ha)
    (fun h => lf_none1 h) (fun _ h h2 => lf_none2 h h2) (fun _ _ h h2 => lf_some h h2)
end Go.Proofs.Ytodjmfmenfncdaa
