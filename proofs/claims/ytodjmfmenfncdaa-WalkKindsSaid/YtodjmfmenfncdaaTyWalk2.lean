/-
  walk.Walk by its contract.
-/
import Derived.Test.YtodjmfmenfncdaaTyLeaf
namespace Go.Proofs.Ytodjmfmenfncdaa
open Go.RowKit

theorem bd_some {x : Option Nat} {f : Nat → Option Nat} {a : Nat} (h : x = some a) : x.bind f = f a := by subst h; rfl
theorem wk_none {V : Nat → Nat} {F root at_ acc : Nat} (h : tbLeaf V F root at_ = none) : tbWalk V F root at_ acc = none := bd_none h
theorem wk_some {V : Nat → Nat} {F root at_ acc x : Nat} (h : tbLeaf V F root at_ = some x) : tbWalk V F root at_ acc = if tbMay F (entV V x) acc = true then some (entV V x / 1024 * 256 + at_ % 256) else none := bd_some h

theorem wwalk_nil (w : World) (root at_ acc : Int) :
    Calls Try.prog 13 #[.pointer none, .int .i64 root, .int .u64 at_, .int .i64 acc] w fun e w' => e = .returned (.tuple #[.int .u64 0, .int .i64 1]) ∧ w = w' := by
  go_enter Try.func13, Try.ntmps13
  go_wp2_with fail
  go_ret2
  exact ⟨rfl, rfl⟩
theorem wwalk_root (S : Nat → Prop) (w : World) (p F : Nat) (V : Nat → Nat) (h : PY S w p F V) (root : Int) (hr : root < 0 ∨ (F : Int) ≤ root) (at_ acc : Int) :
    Calls Try.prog 13 #[.pointer (some ⟨p, 0, none⟩), .int .i64 root, .int .u64 at_, .int .i64 acc] w fun e w' => e = .returned (.tuple #[.int .u64 0, .int .i64 1]) ∧ w = w' := by
  have HF := Lib.hid (py_frames h)
  clear h
  by_cases h1 : root < 0
  · have d1 : decide (root < (0 : Int)) = true := decide_eq_true h1
    clear hr
    go_enter Try.func13, Try.ntmps13
    go_wp2_with fail
    go_ret2
    exact ⟨rfl, rfl⟩
  · have d1 : decide (root < (0 : Int)) = false := decide_eq_false h1
    have d2 : decide ((F : Int) ≤ root) = true := decide_eq_true (by omega)
    clear hr h1
    go_enter Try.func13, Try.ntmps13
    go_wp2_with fail
    refine HF.out.mono ?_
    rintro e w' ⟨rfl, rfl⟩
    go_wp2_with fail
    go_ret2
    exact ⟨rfl, rfl⟩
theorem wwalk_acc (S : Nat → Prop) (w : World) (p F : Nat) (V : Nat → Nat) (h : PY S w p F V) (root : Nat) (hr : root < F) (at_ acc : Int) (ha : acc ≠ 1 ∧ acc ≠ 2 ∧ acc ≠ 3) :
    Calls Try.prog 13 #[.pointer (some ⟨p, 0, none⟩), .int .i64 root, .int .u64 at_, .int .i64 acc] w fun e w' => e = .returned (.tuple #[.int .u64 0, .int .i64 1]) ∧ w = w' := by
  have HF := Lib.hid (py_frames h)
  have HN := Lib.hid (tb_needs_no w acc ha)
  clear h ha
  have d1 : decide ((root : Int) < (0 : Int)) = false := decide_eq_false (by omega)
  have d2 : decide ((F : Int) ≤ (root : Int)) = false := decide_eq_false (by omega)
  have d3 : ¬ F ≤ root := by omega
  go_enter Try.func13, Try.ntmps13
  go_wp2_with fail
  refine HF.out.mono ?_
  rintro e w' ⟨rfl, rfl⟩
  go_wp2_with fail
  refine HN.out.mono ?_
  rintro e w' ⟨rfl, rfl⟩
  go_wp2_with fail
  go_ret2
  exact ⟨rfl, rfl⟩

theorem wwalk_beyond1 (S : Nat → Prop) (w : World) (p F : Nat) (V : Nat → Nat) (h : PY S w p F V) (hF : F ≤ 256) (root : Nat) (hr : root < F) (at_ : Nat) (ha : 8388608 ≤ at_) :
    Calls Try.prog 13 #[.pointer (some ⟨p, 0, none⟩), .int .i64 root, .int .u64 at_, .int .i64 1] w fun e w' => e = .returned (.tuple #[.int .u64 0, .int .i64 3]) ∧ w = w' := by
  have FR := Lib.hid (fun W (H : PY S W p F V) => py_frames H)
  have ND := Lib.hid (fun W => tb_needs W 1 (by omega))
  have hnd : ((2 ^ 1 : Nat) : Int) = 2 := by decide
  rw [hnd] at ND
  rw [show ((1 : Nat) : Int) = 1 from rfl] at ND
  have d1 : decide ((root : Int) < (0 : Int)) = false := decide_eq_false (by omega)
  have d2 : decide ((F : Int) ≤ (root : Int)) = false := decide_eq_false (by omega)
  have d3 : ¬ F ≤ root := by omega
  have qF : IntKind.u64.wrap (F : Int) = (F : Int) := by rw [u64_wrap]; omega
  have LF := Lib.hid (leaf_beyond S w p F V h root hr at_ ha)
  have HX := Lib.hid h
  clear h hnd ha hF hr
  go_enter Try.func13, Try.ntmps13
  go_wp2_with fail
  refine (FR.out w HX.out).mono ?_
  rintro e w' ⟨rfl, rfl⟩
  go_wp2_with fail
  refine (ND.out w).mono ?_
  rintro e w' ⟨rfl, rfl⟩
  go_wp2_with fail
  refine LF.out.mono ?_
  rintro e w' ⟨rfl, rfl⟩
  go_wp2_with fail
  go_ret2
  exact ⟨rfl, rfl⟩

set_option maxRecDepth 100000 in
set_option maxHeartbeats 800000 in
theorem wwalk_1 (S : Nat → Prop) (w : World) (p F : Nat) (V : Nat → Nat) (h : PY S w p F V) (hF : F ≤ 256) (root : Nat) (hr : root < F) (at_ : Nat) (ha : at_ < 8388608) :
    Calls Try.prog 13 #[.pointer (some ⟨p, 0, none⟩), .int .i64 root, .int .u64 at_, .int .i64 1] w (StepY S w p F V (lfVal (tbWalk V F root at_ 1))) := by
  have FR := Lib.hid (fun W (H : PY S W p F V) => py_frames H)
  have ND := Lib.hid (fun W => tb_needs W 1 (by omega))
  have hnd : ((2 ^ 1 : Nat) : Int) = 2 := by decide
  rw [hnd] at ND
  rw [show ((1 : Nat) : Int) = 1 from rfl] at ND
  have d1 : decide ((root : Int) < (0 : Int)) = false := decide_eq_false (by omega)
  have d2 : decide ((F : Int) ≤ (root : Int)) = false := decide_eq_false (by omega)
  have d3 : ¬ F ≤ root := by omega
  have qF : IntKind.u64.wrap (F : Int) = (F : Int) := by rw [u64_wrap]; omega
  have LF := walk_leaf S w p F V h hF root hr at_ ha
  have HX := Lib.hid h
  have bor : bits BinOp.or IntKind.u64 17 2 = 19 := by decide
  cases hl : tbLeaf V F root at_ with
  | none =>
    rw [wk_none hl]
    rw [hl] at LF
    have LF := Lib.hid LF
    clear h hnd ha hF hr hl
    go_enter Try.func13, Try.ntmps13
    go_wp2_with fail
    refine (FR.out w HX.out).mono ?_
    rintro e w' ⟨rfl, rfl⟩
    go_wp2_with fail
    refine (ND.out w).mono ?_
    rintro e w' ⟨rfl, rfl⟩
    go_wp2_with fail
    refine LF.out.mono ?_
    rintro e w4 ⟨rfl, m4, c4⟩
    have M4 := Lib.hid (And.intro m4 c4); clear m4 c4
    simp only [lfVal]
    go_wp2_with fail
    go_ret2
    exact ⟨rfl, M4.out⟩
  | some x =>
    rw [wk_some hl]
    rw [hl] at LF
    have hx := tbLeaf_lt hl
    have he := entV_lt V x
    have LD := fun W (H : PY S W p F V) => py_load8 H hF x hx (x : Int) rfl
    generalize entV V x = y at *
    have b2 : bits BinOp.and IntKind.u64 (y : Int) 19 = ((y &&& 19 : Nat) : Int) := u64_and_nat y 19 he (by omega)
    have W2 := Lib.hid (want2 y)
    have FY := fun W => tb_frame W y he
    have hmay : tbMay F y 1 = decide (y % 2 ≠ 0 ∧ y / 16 % 2 ≠ 0 ∧ y / 2 % 2 ≠ 0 ∧ y / 1024 < F) := by unfold tbMay; rw [show 2 ^ 1 = 2 from rfl]
    have HMAY := Lib.hid hmay
    have LF := Lib.hid LF; have LD := Lib.hid LD; have FY := Lib.hid FY
    clear h hnd hl he hmay
    by_cases e1 : y &&& 19 = 19
    · have w1 := W2.out.1 e1
      rw [e1] at b2
      by_cases e2 : y / 1024 < F
      · have hm : tbMay F y 1 = true := by rw [HMAY.out]; exact decide_eq_true ⟨w1.1, w1.2.1, w1.2.2, e2⟩
        rw [hm, if_pos rfl]
        generalize y / 1024 = f at *
        have d7 : decide ((F : Int) ≤ (f : Int)) = false := decide_eq_false (by omega)
        have d8 : ¬ F ≤ f := by omega
        have q1 : IntKind.u64.wrap ((f : Int) * 256) = (f : Int) * 256 := by rw [u64_wrap]; omega
        have q2 : IntKind.u64.wrap ((at_ : Int) % 256) = (at_ : Int) % 256 := by rw [u64_wrap]; omega
        have q3 : IntKind.u64.wrap ((f : Int) * 256 + (at_ : Int) % 256) = (f : Int) * 256 + (at_ : Int) % 256 := by rw [u64_wrap]; omega
        clear ha hF hr e1 w1 hm hx
        go_enter Try.func13, Try.ntmps13
        go_wp2_with fail
        refine (FR.out w HX.out).mono ?_
        rintro e w' ⟨rfl, rfl⟩
        go_wp2_with fail
        refine (ND.out w).mono ?_
        rintro e w' ⟨rfl, rfl⟩
        go_wp2_with fail
        refine LF.out.mono ?_
        rintro e w4 ⟨rfl, m4, c4⟩
        have M4 := Lib.hid (And.intro m4 c4); clear m4 c4
        simp only [lfVal]
        go_wp2_with fail
        refine (LD.out w4 M4.out.1).mono ?_
        rintro e w5 ⟨rfl, m5, c5⟩
        have M5 := Lib.hid (And.intro m5 (M4.out.2.trans c5)); clear m5 c5
        go_wp2_with fail
        refine (ND.out w5).mono ?_
        rintro e w' ⟨rfl, rfl⟩
        go_wp2_with fail
        refine (FY.out w5).mono ?_
        rintro e w' ⟨rfl, rfl⟩
        go_wp2_with fail
        refine (FR.out w5 M5.out.1).mono ?_
        rintro e w' ⟨rfl, rfl⟩
        go_wp2_with fail
        refine (FY.out w5).mono ?_
        rintro e w' ⟨rfl, rfl⟩
        go_wp2_with fail
        go_ret2
        exact ⟨by simp [lfVal], M5.out⟩
      · have hm : tbMay F y 1 = false := by rw [HMAY.out]; exact decide_eq_false (fun h => e2 h.2.2.2)
        rw [hm, if_neg (by decide)]
        generalize y / 1024 = f at *
        have d7 : decide ((F : Int) ≤ (f : Int)) = true := decide_eq_true (by omega)
        clear ha hF hr e1 w1 hm hx
        go_enter Try.func13, Try.ntmps13
        go_wp2_with fail
        refine (FR.out w HX.out).mono ?_
        rintro e w' ⟨rfl, rfl⟩
        go_wp2_with fail
        refine (ND.out w).mono ?_
        rintro e w' ⟨rfl, rfl⟩
        go_wp2_with fail
        refine LF.out.mono ?_
        rintro e w4 ⟨rfl, m4, c4⟩
        have M4 := Lib.hid (And.intro m4 c4); clear m4 c4
        simp only [lfVal]
        go_wp2_with fail
        refine (LD.out w4 M4.out.1).mono ?_
        rintro e w5 ⟨rfl, m5, c5⟩
        have M5 := Lib.hid (And.intro m5 (M4.out.2.trans c5)); clear m5 c5
        go_wp2_with fail
        refine (ND.out w5).mono ?_
        rintro e w' ⟨rfl, rfl⟩
        go_wp2_with fail
        refine (FY.out w5).mono ?_
        rintro e w' ⟨rfl, rfl⟩
        go_wp2_with fail
        refine (FR.out w5 M5.out.1).mono ?_
        rintro e w' ⟨rfl, rfl⟩
        go_wp2_with fail
        go_ret2
        exact ⟨rfl, M5.out⟩
    · have hm : tbMay F y 1 = false := by rw [HMAY.out]; exact decide_eq_false (fun h => e1 (W2.out.2 ⟨h.1, h.2.1, h.2.2.1⟩))
      rw [hm, if_neg (by decide)]
      generalize y &&& 19 = z at *
      have d6 : ((z : Int) != 19) = true := by simp; omega
      have d6' : ¬ z = 19 := e1
      clear ha hF hr hm hx W2 HMAY
      go_enter Try.func13, Try.ntmps13
      go_wp2_with fail
      refine (FR.out w HX.out).mono ?_
      rintro e w' ⟨rfl, rfl⟩
      go_wp2_with fail
      refine (ND.out w).mono ?_
      rintro e w' ⟨rfl, rfl⟩
      go_wp2_with fail
      refine LF.out.mono ?_
      rintro e w4 ⟨rfl, m4, c4⟩
      have M4 := Lib.hid (And.intro m4 c4); clear m4 c4
      simp only [lfVal]
      go_wp2_with fail
      refine (LD.out w4 M4.out.1).mono ?_
      rintro e w5 ⟨rfl, m5, c5⟩
      have M5 := Lib.hid (And.intro m5 (M4.out.2.trans c5)); clear m5 c5
      go_wp2_with fail
      refine (ND.out w5).mono ?_
      rintro e w' ⟨rfl, rfl⟩
      go_wp2_with fail
      go_ret2
      exact ⟨rfl, M5.out⟩

theorem wwalk_beyond2 (S : Nat → Prop) (w : World) (p F : Nat) (V : Nat → Nat) (h : PY S w p F V) (hF : F ≤ 256) (root : Nat) (hr : root < F) (at_ : Nat) (ha : 8388608 ≤ at_) :
    Calls Try.prog 13 #[.pointer (some ⟨p, 0, none⟩), .int .i64 root, .int .u64 at_, .int .i64 2] w fun e w' => e = .returned (.tuple #[.int .u64 0, .int .i64 3]) ∧ w = w' := by
  have FR := Lib.hid (fun W (H : PY S W p F V) => py_frames H)
  have ND := Lib.hid (fun W => tb_needs W 2 (by omega))
  have hnd : ((2 ^ 2 : Nat) : Int) = 4 := by decide
  rw [hnd] at ND
  rw [show ((2 : Nat) : Int) = 2 from rfl] at ND
  have d1 : decide ((root : Int) < (0 : Int)) = false := decide_eq_false (by omega)
  have d2 : decide ((F : Int) ≤ (root : Int)) = false := decide_eq_false (by omega)
  have d3 : ¬ F ≤ root := by omega
  have qF : IntKind.u64.wrap (F : Int) = (F : Int) := by rw [u64_wrap]; omega
  have LF := Lib.hid (leaf_beyond S w p F V h root hr at_ ha)
  have HX := Lib.hid h
  clear h hnd ha hF hr
  go_enter Try.func13, Try.ntmps13
  go_wp2_with fail
  refine (FR.out w HX.out).mono ?_
  rintro e w' ⟨rfl, rfl⟩
  go_wp2_with fail
  refine (ND.out w).mono ?_
  rintro e w' ⟨rfl, rfl⟩
  go_wp2_with fail
  refine LF.out.mono ?_
  rintro e w' ⟨rfl, rfl⟩
  go_wp2_with fail
  go_ret2
  exact ⟨rfl, rfl⟩

set_option maxRecDepth 100000 in
set_option maxHeartbeats 800000 in
theorem wwalk_2 (S : Nat → Prop) (w : World) (p F : Nat) (V : Nat → Nat) (h : PY S w p F V) (hF : F ≤ 256) (root : Nat) (hr : root < F) (at_ : Nat) (ha : at_ < 8388608) :
    Calls Try.prog 13 #[.pointer (some ⟨p, 0, none⟩), .int .i64 root, .int .u64 at_, .int .i64 2] w (StepY S w p F V (lfVal (tbWalk V F root at_ 2))) := by
  have FR := Lib.hid (fun W (H : PY S W p F V) => py_frames H)
  have ND := Lib.hid (fun W => tb_needs W 2 (by omega))
  have hnd : ((2 ^ 2 : Nat) : Int) = 4 := by decide
  rw [hnd] at ND
  rw [show ((2 : Nat) : Int) = 2 from rfl] at ND
  have d1 : decide ((root : Int) < (0 : Int)) = false := decide_eq_false (by omega)
  have d2 : decide ((F : Int) ≤ (root : Int)) = false := decide_eq_false (by omega)
  have d3 : ¬ F ≤ root := by omega
  have qF : IntKind.u64.wrap (F : Int) = (F : Int) := by rw [u64_wrap]; omega
  have LF := walk_leaf S w p F V h hF root hr at_ ha
  have HX := Lib.hid h
  have bor : bits BinOp.or IntKind.u64 17 4 = 21 := by decide
  cases hl : tbLeaf V F root at_ with
  | none =>
    rw [wk_none hl]
    rw [hl] at LF
    have LF := Lib.hid LF
    clear h hnd ha hF hr hl
    go_enter Try.func13, Try.ntmps13
    go_wp2_with fail
    refine (FR.out w HX.out).mono ?_
    rintro e w' ⟨rfl, rfl⟩
    go_wp2_with fail
    refine (ND.out w).mono ?_
    rintro e w' ⟨rfl, rfl⟩
    go_wp2_with fail
    refine LF.out.mono ?_
    rintro e w4 ⟨rfl, m4, c4⟩
    have M4 := Lib.hid (And.intro m4 c4); clear m4 c4
    simp only [lfVal]
    go_wp2_with fail
    go_ret2
    exact ⟨rfl, M4.out⟩
  | some x =>
    rw [wk_some hl]
    rw [hl] at LF
    have hx := tbLeaf_lt hl
    have he := entV_lt V x
    have LD := fun W (H : PY S W p F V) => py_load8 H hF x hx (x : Int) rfl
    generalize entV V x = y at *
    have b2 : bits BinOp.and IntKind.u64 (y : Int) 21 = ((y &&& 21 : Nat) : Int) := u64_and_nat y 21 he (by omega)
    have W2 := Lib.hid (want4 y)
    have FY := fun W => tb_frame W y he
    have hmay : tbMay F y 2 = decide (y % 2 ≠ 0 ∧ y / 16 % 2 ≠ 0 ∧ y / 4 % 2 ≠ 0 ∧ y / 1024 < F) := by unfold tbMay; rw [show 2 ^ 2 = 4 from rfl]
    have HMAY := Lib.hid hmay
    have LF := Lib.hid LF; have LD := Lib.hid LD; have FY := Lib.hid FY
    clear h hnd hl he hmay
    by_cases e1 : y &&& 21 = 21
    · have w1 := W2.out.1 e1
      rw [e1] at b2
      by_cases e2 : y / 1024 < F
      · have hm : tbMay F y 2 = true := by rw [HMAY.out]; exact decide_eq_true ⟨w1.1, w1.2.1, w1.2.2, e2⟩
        rw [hm, if_pos rfl]
        generalize y / 1024 = f at *
        have d7 : decide ((F : Int) ≤ (f : Int)) = false := decide_eq_false (by omega)
        have d8 : ¬ F ≤ f := by omega
        have q1 : IntKind.u64.wrap ((f : Int) * 256) = (f : Int) * 256 := by rw [u64_wrap]; omega
        have q2 : IntKind.u64.wrap ((at_ : Int) % 256) = (at_ : Int) % 256 := by rw [u64_wrap]; omega
        have q3 : IntKind.u64.wrap ((f : Int) * 256 + (at_ : Int) % 256) = (f : Int) * 256 + (at_ : Int) % 256 := by rw [u64_wrap]; omega
        clear ha hF hr e1 w1 hm hx
        go_enter Try.func13, Try.ntmps13
        go_wp2_with fail
        refine (FR.out w HX.out).mono ?_
        rintro e w' ⟨rfl, rfl⟩
        go_wp2_with fail
        refine (ND.out w).mono ?_
        rintro e w' ⟨rfl, rfl⟩
        go_wp2_with fail
        refine LF.out.mono ?_
        rintro e w4 ⟨rfl, m4, c4⟩
        have M4 := Lib.hid (And.intro m4 c4); clear m4 c4
        simp only [lfVal]
        go_wp2_with fail
        refine (LD.out w4 M4.out.1).mono ?_
        rintro e w5 ⟨rfl, m5, c5⟩
        have M5 := Lib.hid (And.intro m5 (M4.out.2.trans c5)); clear m5 c5
        go_wp2_with fail
        refine (ND.out w5).mono ?_
        rintro e w' ⟨rfl, rfl⟩
        go_wp2_with fail
        refine (FY.out w5).mono ?_
        rintro e w' ⟨rfl, rfl⟩
        go_wp2_with fail
        refine (FR.out w5 M5.out.1).mono ?_
        rintro e w' ⟨rfl, rfl⟩
        go_wp2_with fail
        refine (FY.out w5).mono ?_
        rintro e w' ⟨rfl, rfl⟩
        go_wp2_with fail
        go_ret2
        exact ⟨by simp [lfVal], M5.out⟩
      · have hm : tbMay F y 2 = false := by rw [HMAY.out]; exact decide_eq_false (fun h => e2 h.2.2.2)
        rw [hm, if_neg (by decide)]
        generalize y / 1024 = f at *
        have d7 : decide ((F : Int) ≤ (f : Int)) = true := decide_eq_true (by omega)
        clear ha hF hr e1 w1 hm hx
        go_enter Try.func13, Try.ntmps13
        go_wp2_with fail
        refine (FR.out w HX.out).mono ?_
        rintro e w' ⟨rfl, rfl⟩
        go_wp2_with fail
        refine (ND.out w).mono ?_
        rintro e w' ⟨rfl, rfl⟩
        go_wp2_with fail
        refine LF.out.mono ?_
        rintro e w4 ⟨rfl, m4, c4⟩
        have M4 := Lib.hid (And.intro m4 c4); clear m4 c4
        simp only [lfVal]
        go_wp2_with fail
        refine (LD.out w4 M4.out.1).mono ?_
        rintro e w5 ⟨rfl, m5, c5⟩
        have M5 := Lib.hid (And.intro m5 (M4.out.2.trans c5)); clear m5 c5
        go_wp2_with fail
        refine (ND.out w5).mono ?_
        rintro e w' ⟨rfl, rfl⟩
        go_wp2_with fail
        refine (FY.out w5).mono ?_
        rintro e w' ⟨rfl, rfl⟩
        go_wp2_with fail
        refine (FR.out w5 M5.out.1).mono ?_
        rintro e w' ⟨rfl, rfl⟩
        go_wp2_with fail
        go_ret2
        exact ⟨rfl, M5.out⟩
    · have hm : tbMay F y 2 = false := by rw [HMAY.out]; exact decide_eq_false (fun h => e1 (W2.out.2 ⟨h.1, h.2.1, h.2.2.1⟩))
      rw [hm, if_neg (by decide)]
      generalize y &&& 21 = z at *
      have d6 : ((z : Int) != 21) = true := by simp; omega
      have d6' : ¬ z = 21 := e1
      clear ha hF hr hm hx W2 HMAY
      go_enter Try.func13, Try.ntmps13
      go_wp2_with fail
      refine (FR.out w HX.out).mono ?_
      rintro e w' ⟨rfl, rfl⟩
      go_wp2_with fail
      refine (ND.out w).mono ?_
      rintro e w' ⟨rfl, rfl⟩
      go_wp2_with fail
      refine LF.out.mono ?_
      rintro e w4 ⟨rfl, m4, c4⟩
      have M4 := Lib.hid (And.intro m4 c4); clear m4 c4
      simp only [lfVal]
      go_wp2_with fail
      refine (LD.out w4 M4.out.1).mono ?_
      rintro e w5 ⟨rfl, m5, c5⟩
      have M5 := Lib.hid (And.intro m5 (M4.out.2.trans c5)); clear m5 c5
      go_wp2_with fail
      refine (ND.out w5).mono ?_
      rintro e w' ⟨rfl, rfl⟩
      go_wp2_with fail
      go_ret2
      exact ⟨rfl, M5.out⟩

theorem wwalk_beyond3 (S : Nat → Prop) (w : World) (p F : Nat) (V : Nat → Nat) (h : PY S w p F V) (hF : F ≤ 256) (root : Nat) (hr : root < F) (at_ : Nat) (ha : 8388608 ≤ at_) :
    Calls Try.prog 13 #[.pointer (some ⟨p, 0, none⟩), .int .i64 root, .int .u64 at_, .int .i64 3] w fun e w' => e = .returned (.tuple #[.int .u64 0, .int .i64 3]) ∧ w = w' := by
  have FR := Lib.hid (fun W (H : PY S W p F V) => py_frames H)
  have ND := Lib.hid (fun W => tb_needs W 3 (by omega))
  have hnd : ((2 ^ 3 : Nat) : Int) = 8 := by decide
  rw [hnd] at ND
  rw [show ((3 : Nat) : Int) = 3 from rfl] at ND
  have d1 : decide ((root : Int) < (0 : Int)) = false := decide_eq_false (by omega)
  have d2 : decide ((F : Int) ≤ (root : Int)) = false := decide_eq_false (by omega)
  have d3 : ¬ F ≤ root := by omega
  have qF : IntKind.u64.wrap (F : Int) = (F : Int) := by rw [u64_wrap]; omega
  have LF := Lib.hid (leaf_beyond S w p F V h root hr at_ ha)
  have HX := Lib.hid h
  clear h hnd ha hF hr
  go_enter Try.func13, Try.ntmps13
  go_wp2_with fail
  refine (FR.out w HX.out).mono ?_
  rintro e w' ⟨rfl, rfl⟩
  go_wp2_with fail
  refine (ND.out w).mono ?_
  rintro e w' ⟨rfl, rfl⟩
  go_wp2_with fail
  refine LF.out.mono ?_
  rintro e w' ⟨rfl, rfl⟩
  go_wp2_with fail
  go_ret2
  exact ⟨rfl, rfl⟩

set_option maxRecDepth 100000 in
set_option maxHeartbeats 800000 in
theorem wwalk_3 (S : Nat → Prop) (w : World) (p F : Nat) (V : Nat → Nat) (h : PY S w p F V) (hF : F ≤ 256) (root : Nat) (hr : root < F) (at_ : Nat) (ha : at_ < 8388608) :
    Calls Try.prog 13 #[.pointer (some ⟨p, 0, none⟩), .int .i64 root, .int .u64 at_, .int .i64 3] w (StepY S w p F V (lfVal (tbWalk V F root at_ 3))) := by
  have FR := Lib.hid (fun W (H : PY S W p F V) => py_frames H)
  have ND := Lib.hid (fun W => tb_needs W 3 (by omega))
  have hnd : ((2 ^ 3 : Nat) : Int) = 8 := by decide
  rw [hnd] at ND
  rw [show ((3 : Nat) : Int) = 3 from rfl] at ND
  have d1 : decide ((root : Int) < (0 : Int)) = false := decide_eq_false (by omega)
  have d2 : decide ((F : Int) ≤ (root : Int)) = false := decide_eq_false (by omega)
  have d3 : ¬ F ≤ root := by omega
  have qF : IntKind.u64.wrap (F : Int) = (F : Int) := by rw [u64_wrap]; omega
  have LF := walk_leaf S w p F V h hF root hr at_ ha
  have HX := Lib.hid h
  have bor : bits BinOp.or IntKind.u64 17 8 = 25 := by decide
  cases hl : tbLeaf V F root at_ with
  | none =>
    rw [wk_none hl]
    rw [hl] at LF
    have LF := Lib.hid LF
    clear h hnd ha hF hr hl
    go_enter Try.func13, Try.ntmps13
    go_wp2_with fail
    refine (FR.out w HX.out).mono ?_
    rintro e w' ⟨rfl, rfl⟩
    go_wp2_with fail
    refine (ND.out w).mono ?_
    rintro e w' ⟨rfl, rfl⟩
    go_wp2_with fail
    refine LF.out.mono ?_
    rintro e w4 ⟨rfl, m4, c4⟩
    have M4 := Lib.hid (And.intro m4 c4); clear m4 c4
    simp only [lfVal]
    go_wp2_with fail
    go_ret2
    exact ⟨rfl, M4.out⟩
  | some x =>
    rw [wk_some hl]
    rw [hl] at LF
    have hx := tbLeaf_lt hl
    have he := entV_lt V x
    have LD := fun W (H : PY S W p F V) => py_load8 H hF x hx (x : Int) rfl
    generalize entV V x = y at *
    have b2 : bits BinOp.and IntKind.u64 (y : Int) 25 = ((y &&& 25 : Nat) : Int) := u64_and_nat y 25 he (by omega)
    have W2 := Lib.hid (want8 y)
    have FY := fun W => tb_frame W y he
    have hmay : tbMay F y 3 = decide (y % 2 ≠ 0 ∧ y / 16 % 2 ≠ 0 ∧ y / 8 % 2 ≠ 0 ∧ y / 1024 < F) := by unfold tbMay; rw [show 2 ^ 3 = 8 from rfl]
    have HMAY := Lib.hid hmay
    have LF := Lib.hid LF; have LD := Lib.hid LD; have FY := Lib.hid FY
    clear h hnd hl he hmay
    by_cases e1 : y &&& 25 = 25
    · have w1 := W2.out.1 e1
      rw [e1] at b2
      by_cases e2 : y / 1024 < F
      · have hm : tbMay F y 3 = true := by rw [HMAY.out]; exact decide_eq_true ⟨w1.1, w1.2.1, w1.2.2, e2⟩
        rw [hm, if_pos rfl]
        generalize y / 1024 = f at *
        have d7 : decide ((F : Int) ≤ (f : Int)) = false := decide_eq_false (by omega)
        have d8 : ¬ F ≤ f := by omega
        have q1 : IntKind.u64.wrap ((f : Int) * 256) = (f : Int) * 256 := by rw [u64_wrap]; omega
        have q2 : IntKind.u64.wrap ((at_ : Int) % 256) = (at_ : Int) % 256 := by rw [u64_wrap]; omega
        have q3 : IntKind.u64.wrap ((f : Int) * 256 + (at_ : Int) % 256) = (f : Int) * 256 + (at_ : Int) % 256 := by rw [u64_wrap]; omega
        clear ha hF hr e1 w1 hm hx
        go_enter Try.func13, Try.ntmps13
        go_wp2_with fail
        refine (FR.out w HX.out).mono ?_
        rintro e w' ⟨rfl, rfl⟩
        go_wp2_with fail
        refine (ND.out w).mono ?_
        rintro e w' ⟨rfl, rfl⟩
        go_wp2_with fail
        refine LF.out.mono ?_
        rintro e w4 ⟨rfl, m4, c4⟩
        have M4 := Lib.hid (And.intro m4 c4); clear m4 c4
        simp only [lfVal]
        go_wp2_with fail
        refine (LD.out w4 M4.out.1).mono ?_
        rintro e w5 ⟨rfl, m5, c5⟩
        have M5 := Lib.hid (And.intro m5 (M4.out.2.trans c5)); clear m5 c5
        go_wp2_with fail
        refine (ND.out w5).mono ?_
        rintro e w' ⟨rfl, rfl⟩
        go_wp2_with fail
        refine (FY.out w5).mono ?_
        rintro e w' ⟨rfl, rfl⟩
        go_wp2_with fail
        refine (FR.out w5 M5.out.1).mono ?_
        rintro e w' ⟨rfl, rfl⟩
        go_wp2_with fail
        refine (FY.out w5).mono ?_
        rintro e w' ⟨rfl, rfl⟩
        go_wp2_with fail
        go_ret2
        exact ⟨by simp [lfVal], M5.out⟩
      · have hm : tbMay F y 3 = false := by rw [HMAY.out]; exact decide_eq_false (fun h => e2 h.2.2.2)
        rw [hm, if_neg (by decide)]
        generalize y / 1024 = f at *
        have d7 : decide ((F : Int) ≤ (f : Int)) = true := decide_eq_true (by omega)
        clear ha hF hr e1 w1 hm hx
        go_enter Try.func13, Try.ntmps13
        go_wp2_with fail
        refine (FR.out w HX.out).mono ?_
        rintro e w' ⟨rfl, rfl⟩
        go_wp2_with fail
        refine (ND.out w).mono ?_
        rintro e w' ⟨rfl, rfl⟩
        go_wp2_with fail
        refine LF.out.mono ?_
        rintro e w4 ⟨rfl, m4, c4⟩
        have M4 := Lib.hid (And.intro m4 c4); clear m4 c4
        simp only [lfVal]
        go_wp2_with fail
        refine (LD.out w4 M4.out.1).mono ?_
        rintro e w5 ⟨rfl, m5, c5⟩
        have M5 := Lib.hid (And.intro m5 (M4.out.2.trans c5)); clear m5 c5
        go_wp2_with fail
        refine (ND.out w5).mono ?_
        rintro e w' ⟨rfl, rfl⟩
        go_wp2_with fail
        refine (FY.out w5).mono ?_
        rintro e w' ⟨rfl, rfl⟩
        go_wp2_with fail
        refine (FR.out w5 M5.out.1).mono ?_
        rintro e w' ⟨rfl, rfl⟩
        go_wp2_with fail
        go_ret2
        exact ⟨rfl, M5.out⟩
    · have hm : tbMay F y 3 = false := by rw [HMAY.out]; exact decide_eq_false (fun h => e1 (W2.out.2 ⟨h.1, h.2.1, h.2.2.1⟩))
      rw [hm, if_neg (by decide)]
      generalize y &&& 25 = z at *
      have d6 : ((z : Int) != 25) = true := by simp; omega
      have d6' : ¬ z = 25 := e1
      clear ha hF hr hm hx W2 HMAY
      go_enter Try.func13, Try.ntmps13
      go_wp2_with fail
      refine (FR.out w HX.out).mono ?_
      rintro e w' ⟨rfl, rfl⟩
      go_wp2_with fail
      refine (ND.out w).mono ?_
      rintro e w' ⟨rfl, rfl⟩
      go_wp2_with fail
      refine LF.out.mono ?_
      rintro e w4 ⟨rfl, m4, c4⟩
      have M4 := Lib.hid (And.intro m4 c4); clear m4 c4
      simp only [lfVal]
      go_wp2_with fail
      refine (LD.out w4 M4.out.1).mono ?_
      rintro e w5 ⟨rfl, m5, c5⟩
      have M5 := Lib.hid (And.intro m5 (M4.out.2.trans c5)); clear m5 c5
      go_wp2_with fail
      refine (ND.out w5).mono ?_
      rintro e w' ⟨rfl, rfl⟩
      go_wp2_with fail
      go_ret2
      exact ⟨rfl, M5.out⟩

end Go.Proofs.Ytodjmfmenfncdaa
