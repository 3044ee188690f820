/-
  Several texts in one: TyLeaf, TyWalk2, TyAll, TyEntry.
-/
import Derived.Test.YtijooajhjcfneaaGreatG3
import Derived.WalkMore
namespace Go.Proofs.YtijooajhjcfneaaGreat
open Go.RowKit

def lfVal (x : Option Nat) : Value := match x with
  | none => .tuple #[.int .u64 0, .int .i64 3]
  | some a => .tuple #[.int .u64 (a : Nat), .int .i64 0]
theorem StepY.again {S : Nat → Prop} {w w1 w2 : World} {p F : Nat} {V : Nat → Nat} {v : Value} {e : Ending} (c : Chg (fun k => ¬ S k) w w1) (h : StepY S w1 p F V v e w2) : StepY S w p F V v e w2 := ⟨h.1, h.2.1, c.trans h.2.2⟩
theorem PY.lt {S : Nat → Prop} {w : World} {p F : Nat} {V : Nat → Nat} (h : PY S w p F V) : ∀ k, S k → k < w.heap.size := by
  obtain ⟨o, t, ht, hm, hB, hS⟩ := h
  exact hS

theorem leaf_nil (w : World) (root : Int) (at_ : Int) :
    Calls Tryz.prog 56 #[.pointer none, .int .i64 root, .int .u64 at_] w fun e w' => e = .returned (.tuple #[.int .u64 0, .int .i64 1]) ∧ w = w' := by
  go_enter Tryz.func56, Tryz.ntmps56
  go_wp2_with fail
  go_step3
  go_wp2_with fail
  try rw [Exit.noGoto_ret]
  go_ret2
  exact ⟨rfl, rfl⟩
theorem leaf_root (S : Nat → Prop) (w : World) (p F : Nat) (V : Nat → Nat) (h : PY S w p F V) (root : Int) (hr : root < 0 ∨ (F : Int) ≤ root) (at_ : Int) :
    Calls Tryz.prog 56 #[.pointer (some ⟨p, 0, none⟩), .int .i64 root, .int .u64 at_] w fun e w' => e = .returned (.tuple #[.int .u64 0, .int .i64 1]) ∧ w = w' := by
  have HF := Lib.hid (py_frames h)
  clear h
  by_cases h1 : root < 0
  · have d1 : decide (root < (0 : Int)) = true := decide_eq_true h1
    clear hr
    go_enter Tryz.func56, Tryz.ntmps56
    go_wp2_with fail
    go_step3
    go_wp2_with fail
    try rw [Exit.noGoto_ret]
    go_ret2
    exact ⟨rfl, rfl⟩
  · have d1 : decide (root < (0 : Int)) = false := decide_eq_false h1
    have d2 : decide ((F : Int) ≤ root) = true := decide_eq_true (by omega)
    clear hr h1
    go_enter Tryz.func56, Tryz.ntmps56
    go_wp2_with fail
    go_step3
    go_wp2_with fail
    refine HF.out.mono ?_
    rintro e w' ⟨rfl, rfl⟩
    go_wp2_with fail
    try rw [Exit.noGoto_ret]
    go_ret2
    exact ⟨rfl, rfl⟩
theorem leaf_beyond (S : Nat → Prop) (w : World) (p F : Nat) (V : Nat → Nat) (h : PY S w p F V) (root : Nat) (hr : root < F) (at_ : Nat) (ha : 8388608 ≤ at_) :
    Calls Tryz.prog 56 #[.pointer (some ⟨p, 0, none⟩), .int .i64 root, .int .u64 at_] w fun e w' => e = .returned (.tuple #[.int .u64 0, .int .i64 3]) ∧ w = w' := by
  have HF := Lib.hid (py_frames h)
  clear h
  have d1 : decide ((root : Int) < (0 : Int)) = false := decide_eq_false (by omega)
  have d2 : decide ((F : Int) ≤ (root : Int)) = false := decide_eq_false (by omega)
  have d3 : ¬ F ≤ root := by omega
  have d4 : decide ((8388608 : Int) ≤ (at_ : Int)) = true := decide_eq_true (by omega)
  go_enter Tryz.func56, Tryz.ntmps56
  go_wp2_with fail
  go_step3
  go_wp2_with fail
  refine HF.out.mono ?_
  rintro e w' ⟨rfl, rfl⟩
  go_wp2_with fail
  try rw [Exit.noGoto_ret]
  go_ret2
  exact ⟨rfl, rfl⟩

/-- where the loop stands -/
def LfAt (g0 : Option Nat) (g1 : Nat → Option Nat) (root : Nat) (i t : Value) : Prop :=
  (i = .int .i64 0 ∧ t = .int .u64 root) ∨ (∃ a : Nat, i = .int .i64 1 ∧ t = .int .u64 a ∧ g0 = some a) ∨ (∃ a b : Nat, i = .int .i64 2 ∧ t = .int .u64 b ∧ g0 = some a ∧ g1 a = some b)
theorem bd_none {x : Option Nat} {f : Nat → Option Nat} (h : x = none) : x.bind f = none := by subst h; rfl
theorem bd_map_none {x : Option Nat} {a : Nat} {y : Nat → Option Nat} {g : Nat → Nat} (h : x = some a) (h2 : y a = none) : (x.bind fun a => (y a).map g) = none := by subst h; show (y a).map g = none; rw [h2]; rfl
theorem bd_map_some {x : Option Nat} {a b : Nat} {y : Nat → Option Nat} {g : Nat → Nat} (h : x = some a) (h2 : y a = some b) : (x.bind fun a => (y a).map g) = some (g b) := by subst h; show (y a).map g = some (g b); rw [h2]; rfl
theorem lf_none1 {V : Nat → Nat} {F root at_ : Nat} (h : tbGo F (entV V (root * 256 + 8 * (at_ / 262144 % 32))) = none) : tbLeaf V F root at_ = none := bd_none h
theorem lf_none2 {V : Nat → Nat} {F root at_ a : Nat} (h : tbGo F (entV V (root * 256 + 8 * (at_ / 262144 % 32))) = some a) (h2 : tbGo F (entV V (a * 256 + 8 * (at_ / 8192 % 32))) = none) : tbLeaf V F root at_ = none :=
  bd_map_none (y := fun a => tbGo F (entV V (a * 256 + 8 * (at_ / 8192 % 32)))) (g := fun b => b * 256 + 8 * (at_ / 256 % 32)) h h2
theorem lf_some {V : Nat → Nat} {F root at_ a b : Nat} (h : tbGo F (entV V (root * 256 + 8 * (at_ / 262144 % 32))) = some a) (h2 : tbGo F (entV V (a * 256 + 8 * (at_ / 8192 % 32))) = some b) : tbLeaf V F root at_ = some (b * 256 + 8 * (at_ / 256 % 32)) :=
  bd_map_some (y := fun a => tbGo F (entV V (a * 256 + 8 * (at_ / 8192 % 32)))) (g := fun b => b * 256 + 8 * (at_ / 256 % 32)) h h2

set_option maxRecDepth 100000 in
set_option maxHeartbeats 1600000 in
theorem walk_leaf (S : Nat → Prop) (w : World) (p F : Nat) (V : Nat → Nat) (h : PY S w p F V) (hF : F ≤ 256) (root : Nat) (hr : root < F) (at_ : Nat) (ha : at_ < 8388608) :
    Calls Tryz.prog 56 #[.pointer (some ⟨p, 0, none⟩), .int .i64 root, .int .u64 at_] w (StepY S w p F V (lfVal (tbLeaf V F root at_))) := by
  have FR := Lib.hid (fun W (H : PY S W p F V) => py_frames H)
  have FE := Lib.hid (fun W e he => tb_frame W e he)
  have P0 := Lib.hid (fun W => tb_part0 W at_ ha)
  have P1 := Lib.hid (fun W => tb_part1 W at_ ha)
  have P2 := Lib.hid (fun W => tb_part2 W at_ ha)
  have LD := Lib.hid (fun W (H : PY S W p F V) a ha x hx => py_load8 H hF a ha x hx)
  have d1 : decide ((root : Int) < (0 : Int)) = false := decide_eq_false (by omega)
  have d2 : decide ((F : Int) ≤ (root : Int)) = false := decide_eq_false (by omega)
  have d3 : ¬ F ≤ root := by omega
  have d4 : decide ((8388608 : Int) ≤ (at_ : Int)) = false := decide_eq_false (by omega)
  have d5 : ¬ 8388608 ≤ at_ := by omega
  have qr : IntKind.u64.wrap (root : Int) = (root : Int) := by rw [u64_wrap]; omega
  have qF : IntKind.u64.wrap (F : Int) = (F : Int) := by rw [u64_wrap]; omega
  have k0 := Nat.mod_lt (at_ / 256) (show 32 > 0 by decide)
  have k1 := Nat.mod_lt (at_ / 8192) (show 32 > 0 by decide)
  have k2 := Nat.mod_lt (at_ / 262144) (show 32 > 0 by decide)
  have N1 := Lib.hid (fun h => lf_none1 (V := V) (F := F) (root := root) (at_ := at_) h)
  have N2 := Lib.hid (fun a h h2 => lf_none2 (V := V) (F := F) (root := root) (at_ := at_) (a := a) h h2)
  have N3 := Lib.hid (fun a b h h2 => lf_some (V := V) (F := F) (root := root) (at_ := at_) (a := a) (b := b) h h2)
  generalize tbLeaf V F root at_ = res at *
  generalize at_ / 256 % 32 = c0 at *
  generalize at_ / 8192 % 32 = c1 at *
  generalize at_ / 262144 % 32 = c2 at *
  have HX := Lib.hid h
  have HB := Lib.hid (And.intro hF hr)
  clear h ha hF
  go_enter Tryz.func56, Tryz.ntmps56
  go_wp2_with fail
  go_step3
  go_wp2_with fail
  refine (FR.out w HX.out).mono ?_
  rintro e w' ⟨rfl, rfl⟩
  go_wp2_with fail
  go_step3
  go_wp2_with fail
  go_loopw [8, 9, 31] (fun t l i wr => l = .bool false ∧ Hid (LfAt (tbGo F (entV V (root * 256 + 8 * c2))) (fun a => tbGo F (entV V (a * 256 + 8 * c1))) root i t) ∧ Hid (PY S wr p F V ∧ Chg (fun k => ¬ S k) w wr)) (fun _ _ i _ => 2 - (intOf i).toNat)
  case atStart => exact ⟨rfl, Lib.hid (.inl ⟨rfl, rfl⟩), HX.out, Chg.refl _ _⟩
  case round =>
    obtain ⟨rfl, HI, HW⟩ := hrel
    rcases HI.out with ⟨rfl, rfl⟩ | ⟨a, rfl, rfl, hga⟩ | ⟨a, b, rfl, rfl, hga, hgb⟩
    · have ht : root < F := HB.out.2
      have q1 : IntKind.u64.wrap ((root : Int) * 256) = (root : Int) * 256 := by have := HB.out.1; rw [u64_wrap]; omega
      have q2 : wrap64 (8 * (c2 : Int)) = 8 * (c2 : Int) := by unfold wrap64; omega
      have q3 : IntKind.u64.wrap (8 * (c2 : Int)) = 8 * (c2 : Int) := by rw [u64_wrap]; omega
      have q4 : IntKind.u64.wrap ((root : Int) * 256 + 8 * (c2 : Int)) = (root : Int) * 256 + 8 * (c2 : Int) := by have := HB.out.1; rw [u64_wrap]; omega
      have L := LD.out wr HW.out.1 (root * 256 + 8 * c2) (by omega) ((root : Int) * 256 + 8 * (c2 : Int)) (by omega)
      have he := entV_lt V (root * 256 + 8 * c2)
      generalize hy : entV V (root * 256 + 8 * c2) = y at *
      have HY := Lib.hid hy
      clear hy
      have HL := Lib.hid L
      have HE := Lib.hid he
      have b1 : bits BinOp.and IntKind.u64 (y : Int) 1 = ((y % 2 : Nat) : Int) := by rw [← nat_mask1 y]; exact u64_and_nat y 1 he (by omega)
      have b2 : bits BinOp.and IntKind.u64 (y : Int) 14 = ((y &&& 14 : Nat) : Int) := u64_and_nat y 14 he (by omega)
      have A14 := Lib.hid (and14 y)
      have hgo : tbGo F y = if y % 2 = 0 ∨ y / 2 % 8 ≠ 0 ∨ F ≤ y / 1024 then none else some (y / 1024) := rfl
      have HGO := Lib.hid hgo
      clear L he hgo
      by_cases e1 : y % 2 = 0
      · have hg : tbGo F y = none := by rw [HGO.out, if_pos (.inl e1)]
        have hres := N1.out hg
        subst hres
        rw [e1] at b1
        clear hg HI e1 b2
        go_wp2_with fail
        refine (P2.out wr).mono ?_
        rintro e w' ⟨rfl, rfl⟩
        go_wp2_with fail
        refine HL.out.mono ?_
        rintro e w4 ⟨rfl, m4, c4⟩
        have M4 := Lib.hid (And.intro m4 (HW.out.2.trans c4)); clear m4 c4
        go_wp2_with fail
        try rw [Exit.noGoto_ret]
        go_ret2
        exact ⟨rfl, M4.out⟩
      have e1' : y % 2 = 1 := by omega
      rw [e1'] at b1
      by_cases e2 : y / 2 % 8 = 0
      · rw [A14.out.2 e2] at b2
        have FEy := FE.out
        by_cases e3 : F ≤ y / 1024
        · have hg : tbGo F y = none := by rw [HGO.out, if_pos (.inr (.inr e3))]
          have hres := N1.out hg
          subst hres
          have FY := fun W => Lib.hid (FEy W y HE.out)
          generalize y / 1024 = f at *
          have FY := Lib.hid FY
          have d7 : decide ((F : Int) ≤ (f : Int)) = true := decide_eq_true (by omega)
          clear hg HI e1 e1' e2 FEy
          go_wp2_with fail
          refine (P2.out wr).mono ?_
          rintro e w' ⟨rfl, rfl⟩
          go_wp2_with fail
          refine HL.out.mono ?_
          rintro e w4 ⟨rfl, m4, c4⟩
          have M4 := Lib.hid (And.intro m4 (HW.out.2.trans c4)); clear m4 c4
          go_wp2_with fail
          refine (FY.out w4).out.mono ?_
          rintro e w' ⟨rfl, rfl⟩
          go_wp2_with fail
          refine (FR.out w4 M4.out.1).mono ?_
          rintro e w' ⟨rfl, rfl⟩
          go_wp2_with fail
          try rw [Exit.noGoto_ret]
          go_ret2
          exact ⟨rfl, M4.out⟩
        · have hg : tbGo F y = some (y / 1024) := by rw [HGO.out, if_neg (by rintro (h | h | h); exact e1 h; exact h e2; exact e3 h)]
          have HG := Lib.hid hg
          have FY := fun W => Lib.hid (FEy W y HE.out)
          generalize hf : y / 1024 = f at *
          have FY := Lib.hid FY
          have d7 : decide ((F : Int) ≤ (f : Int)) = false := decide_eq_false (by omega)
          have d8 : ¬ F ≤ f := e3
          have HN := Lib.hid (show LfAt (tbGo F y) (fun a => tbGo F (entV V (a * 256 + 8 * c1))) root (.int .i64 1) (.int .u64 f) from ((.inr (.inl ⟨f, rfl, rfl, hg⟩))))
          clear hg HI e1 e1' e2 FEy hf e3
          go_wp2_with fail
          refine (P2.out wr).mono ?_
          rintro e w' ⟨rfl, rfl⟩
          go_wp2_with fail
          refine HL.out.mono ?_
          rintro e w4 ⟨rfl, m4, c4⟩
          have M4 := Lib.hid (And.intro m4 (HW.out.2.trans c4)); clear m4 c4
          go_wp2_with fail
          refine (FY.out w4).out.mono ?_
          rintro e w' ⟨rfl, rfl⟩
          go_wp2_with fail
          refine (FR.out w4 M4.out.1).mono ?_
          rintro e w' ⟨rfl, rfl⟩
          go_wp2_with fail
          refine (FY.out w4).out.mono ?_
          rintro e w' ⟨rfl, rfl⟩
          go_wp2_with fail
          go_roundw
          case rel => exact ⟨rfl, HN, M4.out⟩
          case measure => simp [intOf]
      · have hg : tbGo F y = none := by rw [HGO.out, if_pos (.inr (.inl e2))]
        have hres := N1.out hg
        subst hres
        have hne : ¬ (y &&& 14 = 0) := fun h => e2 (A14.out.1 h)
        generalize y &&& 14 = z at *
        have d6 : ((z : Int) != 0) = true := by simp; omega
        have d6' : ¬ z = 0 := hne
        clear hg HI e1 e1' e2 A14
        go_wp2_with fail
        refine (P2.out wr).mono ?_
        rintro e w' ⟨rfl, rfl⟩
        go_wp2_with fail
        refine HL.out.mono ?_
        rintro e w4 ⟨rfl, m4, c4⟩
        have M4 := Lib.hid (And.intro m4 (HW.out.2.trans c4)); clear m4 c4
        go_wp2_with fail
        try rw [Exit.noGoto_ret]
        go_ret2
        exact ⟨rfl, M4.out⟩
    · have ht : a < F := tbGo_lt hga
      have q1 : IntKind.u64.wrap ((a : Int) * 256) = (a : Int) * 256 := by have := HB.out.1; rw [u64_wrap]; omega
      have q2 : wrap64 (8 * (c1 : Int)) = 8 * (c1 : Int) := by unfold wrap64; omega
      have q3 : IntKind.u64.wrap (8 * (c1 : Int)) = 8 * (c1 : Int) := by rw [u64_wrap]; omega
      have q4 : IntKind.u64.wrap ((a : Int) * 256 + 8 * (c1 : Int)) = (a : Int) * 256 + 8 * (c1 : Int) := by have := HB.out.1; rw [u64_wrap]; omega
      have L := LD.out wr HW.out.1 (a * 256 + 8 * c1) (by omega) ((a : Int) * 256 + 8 * (c1 : Int)) (by omega)
      have he := entV_lt V (a * 256 + 8 * c1)
      generalize hy : entV V (a * 256 + 8 * c1) = y at *
      have HY := Lib.hid hy
      clear hy
      have HL := Lib.hid L
      have HE := Lib.hid he
      have b1 : bits BinOp.and IntKind.u64 (y : Int) 1 = ((y % 2 : Nat) : Int) := by rw [← nat_mask1 y]; exact u64_and_nat y 1 he (by omega)
      have b2 : bits BinOp.and IntKind.u64 (y : Int) 14 = ((y &&& 14 : Nat) : Int) := u64_and_nat y 14 he (by omega)
      have A14 := Lib.hid (and14 y)
      have hgo : tbGo F y = if y % 2 = 0 ∨ y / 2 % 8 ≠ 0 ∨ F ≤ y / 1024 then none else some (y / 1024) := rfl
      have HGO := Lib.hid hgo
      clear L he hgo
      by_cases e1 : y % 2 = 0
      · have hg : tbGo F y = none := by rw [HGO.out, if_pos (.inl e1)]
        have hres := N2.out a hga (by rw [← HY.out] at hg; exact hg)
        subst hres
        rw [e1] at b1
        clear hg hga HI e1 b2
        go_wp2_with fail
        refine (P1.out wr).mono ?_
        rintro e w' ⟨rfl, rfl⟩
        go_wp2_with fail
        refine HL.out.mono ?_
        rintro e w4 ⟨rfl, m4, c4⟩
        have M4 := Lib.hid (And.intro m4 (HW.out.2.trans c4)); clear m4 c4
        go_wp2_with fail
        try rw [Exit.noGoto_ret]
        go_ret2
        exact ⟨rfl, M4.out⟩
      have e1' : y % 2 = 1 := by omega
      rw [e1'] at b1
      by_cases e2 : y / 2 % 8 = 0
      · rw [A14.out.2 e2] at b2
        have FEy := FE.out
        by_cases e3 : F ≤ y / 1024
        · have hg : tbGo F y = none := by rw [HGO.out, if_pos (.inr (.inr e3))]
          have hres := N2.out a hga (by rw [← HY.out] at hg; exact hg)
          subst hres
          have FY := fun W => Lib.hid (FEy W y HE.out)
          generalize y / 1024 = f at *
          have FY := Lib.hid FY
          have d7 : decide ((F : Int) ≤ (f : Int)) = true := decide_eq_true (by omega)
          clear hg hga HI e1 e1' e2 FEy
          go_wp2_with fail
          refine (P1.out wr).mono ?_
          rintro e w' ⟨rfl, rfl⟩
          go_wp2_with fail
          refine HL.out.mono ?_
          rintro e w4 ⟨rfl, m4, c4⟩
          have M4 := Lib.hid (And.intro m4 (HW.out.2.trans c4)); clear m4 c4
          go_wp2_with fail
          refine (FY.out w4).out.mono ?_
          rintro e w' ⟨rfl, rfl⟩
          go_wp2_with fail
          refine (FR.out w4 M4.out.1).mono ?_
          rintro e w' ⟨rfl, rfl⟩
          go_wp2_with fail
          try rw [Exit.noGoto_ret]
          go_ret2
          exact ⟨rfl, M4.out⟩
        · have hg : tbGo F y = some (y / 1024) := by rw [HGO.out, if_neg (by rintro (h | h | h); exact e1 h; exact h e2; exact e3 h)]
          have HG := Lib.hid hg
          have FY := fun W => Lib.hid (FEy W y HE.out)
          generalize hf : y / 1024 = f at *
          have FY := Lib.hid FY
          have d7 : decide ((F : Int) ≤ (f : Int)) = false := decide_eq_false (by omega)
          have d8 : ¬ F ≤ f := e3
          have HN := Lib.hid (show LfAt (tbGo F (entV V (root * 256 + 8 * c2))) (fun a => tbGo F (entV V (a * 256 + 8 * c1))) root (.int .i64 2) (.int .u64 f) from ((.inr (.inr ⟨a, f, rfl, rfl, hga, show tbGo F (entV V (a * 256 + 8 * c1)) = some f by rw [HY.out]; exact hg⟩))))
          clear hg hga HI e1 e1' e2 FEy hf e3
          go_wp2_with fail
          refine (P1.out wr).mono ?_
          rintro e w' ⟨rfl, rfl⟩
          go_wp2_with fail
          refine HL.out.mono ?_
          rintro e w4 ⟨rfl, m4, c4⟩
          have M4 := Lib.hid (And.intro m4 (HW.out.2.trans c4)); clear m4 c4
          go_wp2_with fail
          refine (FY.out w4).out.mono ?_
          rintro e w' ⟨rfl, rfl⟩
          go_wp2_with fail
          refine (FR.out w4 M4.out.1).mono ?_
          rintro e w' ⟨rfl, rfl⟩
          go_wp2_with fail
          refine (FY.out w4).out.mono ?_
          rintro e w' ⟨rfl, rfl⟩
          go_wp2_with fail
          go_roundw
          case rel => exact ⟨rfl, HN, M4.out⟩
          case measure => simp [intOf]
      · have hg : tbGo F y = none := by rw [HGO.out, if_pos (.inr (.inl e2))]
        have hres := N2.out a hga (by rw [← HY.out] at hg; exact hg)
        subst hres
        have hne : ¬ (y &&& 14 = 0) := fun h => e2 (A14.out.1 h)
        generalize y &&& 14 = z at *
        have d6 : ((z : Int) != 0) = true := by simp; omega
        have d6' : ¬ z = 0 := hne
        clear hg hga HI e1 e1' e2 A14
        go_wp2_with fail
        refine (P1.out wr).mono ?_
        rintro e w' ⟨rfl, rfl⟩
        go_wp2_with fail
        refine HL.out.mono ?_
        rintro e w4 ⟨rfl, m4, c4⟩
        have M4 := Lib.hid (And.intro m4 (HW.out.2.trans c4)); clear m4 c4
        go_wp2_with fail
        try rw [Exit.noGoto_ret]
        go_ret2
        exact ⟨rfl, M4.out⟩
    · have hb := tbGo_lt hgb
      have q1 : IntKind.u64.wrap ((b : Int) * 256) = (b : Int) * 256 := by have := HB.out.1; rw [u64_wrap]; omega
      have q2 : wrap64 (8 * (c0 : Int)) = 8 * (c0 : Int) := by unfold wrap64; omega
      have q3 : IntKind.u64.wrap (8 * (c0 : Int)) = 8 * (c0 : Int) := by rw [u64_wrap]; omega
      have q4 : IntKind.u64.wrap ((b : Int) * 256 + 8 * (c0 : Int)) = (b : Int) * 256 + 8 * (c0 : Int) := by have := HB.out.1; rw [u64_wrap]; omega
      have hres := N3.out a b hga hgb
      subst hres
      clear HI hga hgb
      go_wp2_with fail
      refine (P0.out wr).mono ?_
      rintro e w' ⟨rfl, rfl⟩
      go_wp2_with fail
      try rw [Exit.noGoto_ret]
      go_ret2
      exact ⟨by simp [lfVal], HW.out⟩
end Go.Proofs.YtijooajhjcfneaaGreat

namespace Go.Proofs.YtijooajhjcfneaaGreat
open Go.RowKit

theorem bd_some {x : Option Nat} {f : Nat → Option Nat} {a : Nat} (h : x = some a) : x.bind f = f a := by subst h; rfl
theorem wk_none {V : Nat → Nat} {F root at_ acc : Nat} (h : tbLeaf V F root at_ = none) : tbWalk V F root at_ acc = none := bd_none h
theorem wk_some {V : Nat → Nat} {F root at_ acc x : Nat} (h : tbLeaf V F root at_ = some x) : tbWalk V F root at_ acc = if tbMay F (entV V x) acc = true then some (entV V x / 1024 * 256 + at_ % 256) else none := bd_some h

theorem wwalk_nil (w : World) (root at_ acc : Int) :
    Calls Tryz.prog 40 #[.pointer none, .int .i64 root, .int .u64 at_, .int .i64 acc] w fun e w' => e = .returned (.tuple #[.int .u64 0, .int .i64 1]) ∧ w = w' := by
  go_enter Tryz.func40, Tryz.ntmps40
  go_wp2_with fail
  go_ret2
  exact ⟨rfl, rfl⟩
theorem wwalk_root (S : Nat → Prop) (w : World) (p F : Nat) (V : Nat → Nat) (h : PY S w p F V) (root : Int) (hr : root < 0 ∨ (F : Int) ≤ root) (at_ acc : Int) :
    Calls Tryz.prog 40 #[.pointer (some ⟨p, 0, none⟩), .int .i64 root, .int .u64 at_, .int .i64 acc] w fun e w' => e = .returned (.tuple #[.int .u64 0, .int .i64 1]) ∧ w = w' := by
  have HF := Lib.hid (py_frames h)
  clear h
  by_cases h1 : root < 0
  · have d1 : decide (root < (0 : Int)) = true := decide_eq_true h1
    clear hr
    go_enter Tryz.func40, Tryz.ntmps40
    go_wp2_with fail
    go_ret2
    exact ⟨rfl, rfl⟩
  · have d1 : decide (root < (0 : Int)) = false := decide_eq_false h1
    have d2 : decide ((F : Int) ≤ root) = true := decide_eq_true (by omega)
    clear hr h1
    go_enter Tryz.func40, Tryz.ntmps40
    go_wp2_with fail
    refine HF.out.mono ?_
    rintro e w' ⟨rfl, rfl⟩
    go_wp2_with fail
    go_ret2
    exact ⟨rfl, rfl⟩
theorem wwalk_acc (S : Nat → Prop) (w : World) (p F : Nat) (V : Nat → Nat) (h : PY S w p F V) (root : Nat) (hr : root < F) (at_ acc : Int) (ha : acc ≠ 1 ∧ acc ≠ 2 ∧ acc ≠ 3) :
    Calls Tryz.prog 40 #[.pointer (some ⟨p, 0, none⟩), .int .i64 root, .int .u64 at_, .int .i64 acc] w fun e w' => e = .returned (.tuple #[.int .u64 0, .int .i64 1]) ∧ w = w' := by
  have HF := Lib.hid (py_frames h)
  have HN := Lib.hid (tb_needs_no w acc ha)
  clear h ha
  have d1 : decide ((root : Int) < (0 : Int)) = false := decide_eq_false (by omega)
  have d2 : decide ((F : Int) ≤ (root : Int)) = false := decide_eq_false (by omega)
  have d3 : ¬ F ≤ root := by omega
  go_enter Tryz.func40, Tryz.ntmps40
  go_wp2_with fail
  refine HF.out.mono ?_
  rintro e w' ⟨rfl, rfl⟩
  go_wp2_with fail
  refine HN.out.mono ?_
  rintro e w' ⟨rfl, rfl⟩
  go_wp2_with fail
  go_ret2
  exact ⟨rfl, rfl⟩

theorem wwalk_beyond1 (S : Nat → Prop) (w : World) (p F : Nat) (V : Nat → Nat) (h : PY S w p F V) (hF : F ≤ 256) (root : Nat) (hr : root < F) (at_ : Nat) (ha : 8388608 ≤ at_) :
    Calls Tryz.prog 40 #[.pointer (some ⟨p, 0, none⟩), .int .i64 root, .int .u64 at_, .int .i64 1] w fun e w' => e = .returned (.tuple #[.int .u64 0, .int .i64 3]) ∧ w = w' := by
  have FR := Lib.hid (fun W (H : PY S W p F V) => py_frames H)
  have ND := Lib.hid (fun W => tb_needs W 1 (by omega))
  have hnd : ((2 ^ 1 : Nat) : Int) = 2 := by decide
  rw [hnd] at ND
  rw [show ((1 : Nat) : Int) = 1 from rfl] at ND
  have d1 : decide ((root : Int) < (0 : Int)) = false := decide_eq_false (by omega)
  have d2 : decide ((F : Int) ≤ (root : Int)) = false := decide_eq_false (by omega)
  have d3 : ¬ F ≤ root := by omega
  have qF : IntKind.u64.wrap (F : Int) = (F : Int) := by rw [u64_wrap]; omega
  have LF := Lib.hid (leaf_beyond S w p F V h root hr at_ ha)
  have HX := Lib.hid h
  clear h hnd ha hF hr
  go_enter Tryz.func40, Tryz.ntmps40
  go_wp2_with fail
  refine (FR.out w HX.out).mono ?_
  rintro e w' ⟨rfl, rfl⟩
  go_wp2_with fail
  refine (ND.out w).mono ?_
  rintro e w' ⟨rfl, rfl⟩
  go_wp2_with fail
  refine LF.out.mono ?_
  rintro e w' ⟨rfl, rfl⟩
  go_wp2_with fail
  go_ret2
  exact ⟨rfl, rfl⟩

set_option maxRecDepth 100000 in
set_option maxHeartbeats 800000 in
theorem wwalk_1 (S : Nat → Prop) (w : World) (p F : Nat) (V : Nat → Nat) (h : PY S w p F V) (hF : F ≤ 256) (root : Nat) (hr : root < F) (at_ : Nat) (ha : at_ < 8388608) :
    Calls Tryz.prog 40 #[.pointer (some ⟨p, 0, none⟩), .int .i64 root, .int .u64 at_, .int .i64 1] w (StepY S w p F V (lfVal (tbWalk V F root at_ 1))) := by
  have FR := Lib.hid (fun W (H : PY S W p F V) => py_frames H)
  have ND := Lib.hid (fun W => tb_needs W 1 (by omega))
  have hnd : ((2 ^ 1 : Nat) : Int) = 2 := by decide
  rw [hnd] at ND
  rw [show ((1 : Nat) : Int) = 1 from rfl] at ND
  have d1 : decide ((root : Int) < (0 : Int)) = false := decide_eq_false (by omega)
  have d2 : decide ((F : Int) ≤ (root : Int)) = false := decide_eq_false (by omega)
  have d3 : ¬ F ≤ root := by omega
  have qF : IntKind.u64.wrap (F : Int) = (F : Int) := by rw [u64_wrap]; omega
  have LF := walk_leaf S w p F V h hF root hr at_ ha
  have HX := Lib.hid h
  have bor : bits BinOp.or IntKind.u64 17 2 = 19 := by decide
  cases hl : tbLeaf V F root at_ with
  | none =>
    rw [wk_none hl]
    rw [hl] at LF
    have LF := Lib.hid LF
    clear h hnd ha hF hr hl
    go_enter Tryz.func40, Tryz.ntmps40
    go_wp2_with fail
    refine (FR.out w HX.out).mono ?_
    rintro e w' ⟨rfl, rfl⟩
    go_wp2_with fail
    refine (ND.out w).mono ?_
    rintro e w' ⟨rfl, rfl⟩
    go_wp2_with fail
    refine LF.out.mono ?_
    rintro e w4 ⟨rfl, m4, c4⟩
    have M4 := Lib.hid (And.intro m4 c4); clear m4 c4
    simp only [lfVal]
    go_wp2_with fail
    go_ret2
    exact ⟨rfl, M4.out⟩
  | some x =>
    rw [wk_some hl]
    rw [hl] at LF
    have hx := tbLeaf_lt hl
    have he := entV_lt V x
    have LD := fun W (H : PY S W p F V) => py_load8 H hF x hx (x : Int) rfl
    generalize entV V x = y at *
    have b2 : bits BinOp.and IntKind.u64 (y : Int) 19 = ((y &&& 19 : Nat) : Int) := u64_and_nat y 19 he (by omega)
    have W2 := Lib.hid (want2 y)
    have FY := fun W => tb_frame W y he
    have hmay : tbMay F y 1 = decide (y % 2 ≠ 0 ∧ y / 16 % 2 ≠ 0 ∧ y / 2 % 2 ≠ 0 ∧ y / 1024 < F) := by unfold tbMay; rw [show 2 ^ 1 = 2 from rfl]
    have HMAY := Lib.hid hmay
    have LF := Lib.hid LF; have LD := Lib.hid LD; have FY := Lib.hid FY
    clear h hnd hl he hmay
    by_cases e1 : y &&& 19 = 19
    · have w1 := W2.out.1 e1
      rw [e1] at b2
      by_cases e2 : y / 1024 < F
      · have hm : tbMay F y 1 = true := by rw [HMAY.out]; exact decide_eq_true ⟨w1.1, w1.2.1, w1.2.2, e2⟩
        rw [hm, if_pos rfl]
        generalize y / 1024 = f at *
        have d7 : decide ((F : Int) ≤ (f : Int)) = false := decide_eq_false (by omega)
        have d8 : ¬ F ≤ f := by omega
        have q1 : IntKind.u64.wrap ((f : Int) * 256) = (f : Int) * 256 := by rw [u64_wrap]; omega
        have q2 : IntKind.u64.wrap ((at_ : Int) % 256) = (at_ : Int) % 256 := by rw [u64_wrap]; omega
        have q3 : IntKind.u64.wrap ((f : Int) * 256 + (at_ : Int) % 256) = (f : Int) * 256 + (at_ : Int) % 256 := by rw [u64_wrap]; omega
        clear ha hF hr e1 w1 hm hx
        go_enter Tryz.func40, Tryz.ntmps40
        go_wp2_with fail
        refine (FR.out w HX.out).mono ?_
        rintro e w' ⟨rfl, rfl⟩
        go_wp2_with fail
        refine (ND.out w).mono ?_
        rintro e w' ⟨rfl, rfl⟩
        go_wp2_with fail
        refine LF.out.mono ?_
        rintro e w4 ⟨rfl, m4, c4⟩
        have M4 := Lib.hid (And.intro m4 c4); clear m4 c4
        simp only [lfVal]
        go_wp2_with fail
        refine (LD.out w4 M4.out.1).mono ?_
        rintro e w5 ⟨rfl, m5, c5⟩
        have M5 := Lib.hid (And.intro m5 (M4.out.2.trans c5)); clear m5 c5
        go_wp2_with fail
        refine (ND.out w5).mono ?_
        rintro e w' ⟨rfl, rfl⟩
        go_wp2_with fail
        refine (FY.out w5).mono ?_
        rintro e w' ⟨rfl, rfl⟩
        go_wp2_with fail
        refine (FR.out w5 M5.out.1).mono ?_
        rintro e w' ⟨rfl, rfl⟩
        go_wp2_with fail
        refine (FY.out w5).mono ?_
        rintro e w' ⟨rfl, rfl⟩
        go_wp2_with fail
        go_ret2
        exact ⟨by simp [lfVal], M5.out⟩
      · have hm : tbMay F y 1 = false := by rw [HMAY.out]; exact decide_eq_false (fun h => e2 h.2.2.2)
        rw [hm, if_neg (by decide)]
        generalize y / 1024 = f at *
        have d7 : decide ((F : Int) ≤ (f : Int)) = true := decide_eq_true (by omega)
        clear ha hF hr e1 w1 hm hx
        go_enter Tryz.func40, Tryz.ntmps40
        go_wp2_with fail
        refine (FR.out w HX.out).mono ?_
        rintro e w' ⟨rfl, rfl⟩
        go_wp2_with fail
        refine (ND.out w).mono ?_
        rintro e w' ⟨rfl, rfl⟩
        go_wp2_with fail
        refine LF.out.mono ?_
        rintro e w4 ⟨rfl, m4, c4⟩
        have M4 := Lib.hid (And.intro m4 c4); clear m4 c4
        simp only [lfVal]
        go_wp2_with fail
        refine (LD.out w4 M4.out.1).mono ?_
        rintro e w5 ⟨rfl, m5, c5⟩
        have M5 := Lib.hid (And.intro m5 (M4.out.2.trans c5)); clear m5 c5
        go_wp2_with fail
        refine (ND.out w5).mono ?_
        rintro e w' ⟨rfl, rfl⟩
        go_wp2_with fail
        refine (FY.out w5).mono ?_
        rintro e w' ⟨rfl, rfl⟩
        go_wp2_with fail
        refine (FR.out w5 M5.out.1).mono ?_
        rintro e w' ⟨rfl, rfl⟩
        go_wp2_with fail
        go_ret2
        exact ⟨rfl, M5.out⟩
    · have hm : tbMay F y 1 = false := by rw [HMAY.out]; exact decide_eq_false (fun h => e1 (W2.out.2 ⟨h.1, h.2.1, h.2.2.1⟩))
      rw [hm, if_neg (by decide)]
      generalize y &&& 19 = z at *
      have d6 : ((z : Int) != 19) = true := by simp; omega
      have d6' : ¬ z = 19 := e1
      clear ha hF hr hm hx W2 HMAY
      go_enter Tryz.func40, Tryz.ntmps40
      go_wp2_with fail
      refine (FR.out w HX.out).mono ?_
      rintro e w' ⟨rfl, rfl⟩
      go_wp2_with fail
      refine (ND.out w).mono ?_
      rintro e w' ⟨rfl, rfl⟩
      go_wp2_with fail
      refine LF.out.mono ?_
      rintro e w4 ⟨rfl, m4, c4⟩
      have M4 := Lib.hid (And.intro m4 c4); clear m4 c4
      simp only [lfVal]
      go_wp2_with fail
      refine (LD.out w4 M4.out.1).mono ?_
      rintro e w5 ⟨rfl, m5, c5⟩
      have M5 := Lib.hid (And.intro m5 (M4.out.2.trans c5)); clear m5 c5
      go_wp2_with fail
      refine (ND.out w5).mono ?_
      rintro e w' ⟨rfl, rfl⟩
      go_wp2_with fail
      go_ret2
      exact ⟨rfl, M5.out⟩

theorem wwalk_beyond2 (S : Nat → Prop) (w : World) (p F : Nat) (V : Nat → Nat) (h : PY S w p F V) (hF : F ≤ 256) (root : Nat) (hr : root < F) (at_ : Nat) (ha : 8388608 ≤ at_) :
    Calls Tryz.prog 40 #[.pointer (some ⟨p, 0, none⟩), .int .i64 root, .int .u64 at_, .int .i64 2] w fun e w' => e = .returned (.tuple #[.int .u64 0, .int .i64 3]) ∧ w = w' := by
  have FR := Lib.hid (fun W (H : PY S W p F V) => py_frames H)
  have ND := Lib.hid (fun W => tb_needs W 2 (by omega))
  have hnd : ((2 ^ 2 : Nat) : Int) = 4 := by decide
  rw [hnd] at ND
  rw [show ((2 : Nat) : Int) = 2 from rfl] at ND
  have d1 : decide ((root : Int) < (0 : Int)) = false := decide_eq_false (by omega)
  have d2 : decide ((F : Int) ≤ (root : Int)) = false := decide_eq_false (by omega)
  have d3 : ¬ F ≤ root := by omega
  have qF : IntKind.u64.wrap (F : Int) = (F : Int) := by rw [u64_wrap]; omega
  have LF := Lib.hid (leaf_beyond S w p F V h root hr at_ ha)
  have HX := Lib.hid h
  clear h hnd ha hF hr
  go_enter Tryz.func40, Tryz.ntmps40
  go_wp2_with fail
  refine (FR.out w HX.out).mono ?_
  rintro e w' ⟨rfl, rfl⟩
  go_wp2_with fail
  refine (ND.out w).mono ?_
  rintro e w' ⟨rfl, rfl⟩
  go_wp2_with fail
  refine LF.out.mono ?_
  rintro e w' ⟨rfl, rfl⟩
  go_wp2_with fail
  go_ret2
  exact ⟨rfl, rfl⟩

set_option maxRecDepth 100000 in
set_option maxHeartbeats 800000 in
theorem wwalk_2 (S : Nat → Prop) (w : World) (p F : Nat) (V : Nat → Nat) (h : PY S w p F V) (hF : F ≤ 256) (root : Nat) (hr : root < F) (at_ : Nat) (ha : at_ < 8388608) :
    Calls Tryz.prog 40 #[.pointer (some ⟨p, 0, none⟩), .int .i64 root, .int .u64 at_, .int .i64 2] w (StepY S w p F V (lfVal (tbWalk V F root at_ 2))) := by
  have FR := Lib.hid (fun W (H : PY S W p F V) => py_frames H)
  have ND := Lib.hid (fun W => tb_needs W 2 (by omega))
  have hnd : ((2 ^ 2 : Nat) : Int) = 4 := by decide
  rw [hnd] at ND
  rw [show ((2 : Nat) : Int) = 2 from rfl] at ND
  have d1 : decide ((root : Int) < (0 : Int)) = false := decide_eq_false (by omega)
  have d2 : decide ((F : Int) ≤ (root : Int)) = false := decide_eq_false (by omega)
  have d3 : ¬ F ≤ root := by omega
  have qF : IntKind.u64.wrap (F : Int) = (F : Int) := by rw [u64_wrap]; omega
  have LF := walk_leaf S w p F V h hF root hr at_ ha
  have HX := Lib.hid h
  have bor : bits BinOp.or IntKind.u64 17 4 = 21 := by decide
  cases hl : tbLeaf V F root at_ with
  | none =>
    rw [wk_none hl]
    rw [hl] at LF
    have LF := Lib.hid LF
    clear h hnd ha hF hr hl
    go_enter Tryz.func40, Tryz.ntmps40
    go_wp2_with fail
    refine (FR.out w HX.out).mono ?_
    rintro e w' ⟨rfl, rfl⟩
    go_wp2_with fail
    refine (ND.out w).mono ?_
    rintro e w' ⟨rfl, rfl⟩
    go_wp2_with fail
    refine LF.out.mono ?_
    rintro e w4 ⟨rfl, m4, c4⟩
    have M4 := Lib.hid (And.intro m4 c4); clear m4 c4
    simp only [lfVal]
    go_wp2_with fail
    go_ret2
    exact ⟨rfl, M4.out⟩
  | some x =>
    rw [wk_some hl]
    rw [hl] at LF
    have hx := tbLeaf_lt hl
    have he := entV_lt V x
    have LD := fun W (H : PY S W p F V) => py_load8 H hF x hx (x : Int) rfl
    generalize entV V x = y at *
    have b2 : bits BinOp.and IntKind.u64 (y : Int) 21 = ((y &&& 21 : Nat) : Int) := u64_and_nat y 21 he (by omega)
    have W2 := Lib.hid (want4 y)
    have FY := fun W => tb_frame W y he
    have hmay : tbMay F y 2 = decide (y % 2 ≠ 0 ∧ y / 16 % 2 ≠ 0 ∧ y / 4 % 2 ≠ 0 ∧ y / 1024 < F) := by unfold tbMay; rw [show 2 ^ 2 = 4 from rfl]
    have HMAY := Lib.hid hmay
    have LF := Lib.hid LF; have LD := Lib.hid LD; have FY := Lib.hid FY
    clear h hnd hl he hmay
    by_cases e1 : y &&& 21 = 21
    · have w1 := W2.out.1 e1
      rw [e1] at b2
      by_cases e2 : y / 1024 < F
      · have hm : tbMay F y 2 = true := by rw [HMAY.out]; exact decide_eq_true ⟨w1.1, w1.2.1, w1.2.2, e2⟩
        rw [hm, if_pos rfl]
        generalize y / 1024 = f at *
        have d7 : decide ((F : Int) ≤ (f : Int)) = false := decide_eq_false (by omega)
        have d8 : ¬ F ≤ f := by omega
        have q1 : IntKind.u64.wrap ((f : Int) * 256) = (f : Int) * 256 := by rw [u64_wrap]; omega
        have q2 : IntKind.u64.wrap ((at_ : Int) % 256) = (at_ : Int) % 256 := by rw [u64_wrap]; omega
        have q3 : IntKind.u64.wrap ((f : Int) * 256 + (at_ : Int) % 256) = (f : Int) * 256 + (at_ : Int) % 256 := by rw [u64_wrap]; omega
        clear ha hF hr e1 w1 hm hx
        go_enter Tryz.func40, Tryz.ntmps40
        go_wp2_with fail
        refine (FR.out w HX.out).mono ?_
        rintro e w' ⟨rfl, rfl⟩
        go_wp2_with fail
        refine (ND.out w).mono ?_
        rintro e w' ⟨rfl, rfl⟩
        go_wp2_with fail
        refine LF.out.mono ?_
        rintro e w4 ⟨rfl, m4, c4⟩
        have M4 := Lib.hid (And.intro m4 c4); clear m4 c4
        simp only [lfVal]
        go_wp2_with fail
        refine (LD.out w4 M4.out.1).mono ?_
        rintro e w5 ⟨rfl, m5, c5⟩
        have M5 := Lib.hid (And.intro m5 (M4.out.2.trans c5)); clear m5 c5
        go_wp2_with fail
        refine (ND.out w5).mono ?_
        rintro e w' ⟨rfl, rfl⟩
        go_wp2_with fail
        refine (FY.out w5).mono ?_
        rintro e w' ⟨rfl, rfl⟩
        go_wp2_with fail
        refine (FR.out w5 M5.out.1).mono ?_
        rintro e w' ⟨rfl, rfl⟩
        go_wp2_with fail
        refine (FY.out w5).mono ?_
        rintro e w' ⟨rfl, rfl⟩
        go_wp2_with fail
        go_ret2
        exact ⟨by simp [lfVal], M5.out⟩
      · have hm : tbMay F y 2 = false := by rw [HMAY.out]; exact decide_eq_false (fun h => e2 h.2.2.2)
        rw [hm, if_neg (by decide)]
        generalize y / 1024 = f at *
        have d7 : decide ((F : Int) ≤ (f : Int)) = true := decide_eq_true (by omega)
        clear ha hF hr e1 w1 hm hx
        go_enter Tryz.func40, Tryz.ntmps40
        go_wp2_with fail
        refine (FR.out w HX.out).mono ?_
        rintro e w' ⟨rfl, rfl⟩
        go_wp2_with fail
        refine (ND.out w).mono ?_
        rintro e w' ⟨rfl, rfl⟩
        go_wp2_with fail
        refine LF.out.mono ?_
        rintro e w4 ⟨rfl, m4, c4⟩
        have M4 := Lib.hid (And.intro m4 c4); clear m4 c4
        simp only [lfVal]
        go_wp2_with fail
        refine (LD.out w4 M4.out.1).mono ?_
        rintro e w5 ⟨rfl, m5, c5⟩
        have M5 := Lib.hid (And.intro m5 (M4.out.2.trans c5)); clear m5 c5
        go_wp2_with fail
        refine (ND.out w5).mono ?_
        rintro e w' ⟨rfl, rfl⟩
        go_wp2_with fail
        refine (FY.out w5).mono ?_
        rintro e w' ⟨rfl, rfl⟩
        go_wp2_with fail
        refine (FR.out w5 M5.out.1).mono ?_
        rintro e w' ⟨rfl, rfl⟩
        go_wp2_with fail
        go_ret2
        exact ⟨rfl, M5.out⟩
    · have hm : tbMay F y 2 = false := by rw [HMAY.out]; exact decide_eq_false (fun h => e1 (W2.out.2 ⟨h.1, h.2.1, h.2.2.1⟩))
      rw [hm, if_neg (by decide)]
      generalize y &&& 21 = z at *
      have d6 : ((z : Int) != 21) = true := by simp; omega
      have d6' : ¬ z = 21 := e1
      clear ha hF hr hm hx W2 HMAY
      go_enter Tryz.func40, Tryz.ntmps40
      go_wp2_with fail
      refine (FR.out w HX.out).mono ?_
      rintro e w' ⟨rfl, rfl⟩
      go_wp2_with fail
      refine (ND.out w).mono ?_
      rintro e w' ⟨rfl, rfl⟩
      go_wp2_with fail
      refine LF.out.mono ?_
      rintro e w4 ⟨rfl, m4, c4⟩
      have M4 := Lib.hid (And.intro m4 c4); clear m4 c4
      simp only [lfVal]
      go_wp2_with fail
      refine (LD.out w4 M4.out.1).mono ?_
      rintro e w5 ⟨rfl, m5, c5⟩
      have M5 := Lib.hid (And.intro m5 (M4.out.2.trans c5)); clear m5 c5
      go_wp2_with fail
      refine (ND.out w5).mono ?_
      rintro e w' ⟨rfl, rfl⟩
      go_wp2_with fail
      go_ret2
      exact ⟨rfl, M5.out⟩

theorem wwalk_beyond3 (S : Nat → Prop) (w : World) (p F : Nat) (V : Nat → Nat) (h : PY S w p F V) (hF : F ≤ 256) (root : Nat) (hr : root < F) (at_ : Nat) (ha : 8388608 ≤ at_) :
    Calls Tryz.prog 40 #[.pointer (some ⟨p, 0, none⟩), .int .i64 root, .int .u64 at_, .int .i64 3] w fun e w' => e = .returned (.tuple #[.int .u64 0, .int .i64 3]) ∧ w = w' := by
  have FR := Lib.hid (fun W (H : PY S W p F V) => py_frames H)
  have ND := Lib.hid (fun W => tb_needs W 3 (by omega))
  have hnd : ((2 ^ 3 : Nat) : Int) = 8 := by decide
  rw [hnd] at ND
  rw [show ((3 : Nat) : Int) = 3 from rfl] at ND
  have d1 : decide ((root : Int) < (0 : Int)) = false := decide_eq_false (by omega)
  have d2 : decide ((F : Int) ≤ (root : Int)) = false := decide_eq_false (by omega)
  have d3 : ¬ F ≤ root := by omega
  have qF : IntKind.u64.wrap (F : Int) = (F : Int) := by rw [u64_wrap]; omega
  have LF := Lib.hid (leaf_beyond S w p F V h root hr at_ ha)
  have HX := Lib.hid h
  clear h hnd ha hF hr
  go_enter Tryz.func40, Tryz.ntmps40
  go_wp2_with fail
  refine (FR.out w HX.out).mono ?_
  rintro e w' ⟨rfl, rfl⟩
  go_wp2_with fail
  refine (ND.out w).mono ?_
  rintro e w' ⟨rfl, rfl⟩
  go_wp2_with fail
  refine LF.out.mono ?_
  rintro e w' ⟨rfl, rfl⟩
  go_wp2_with fail
  go_ret2
  exact ⟨rfl, rfl⟩

set_option maxRecDepth 100000 in
set_option maxHeartbeats 800000 in
theorem wwalk_3 (S : Nat → Prop) (w : World) (p F : Nat) (V : Nat → Nat) (h : PY S w p F V) (hF : F ≤ 256) (root : Nat) (hr : root < F) (at_ : Nat) (ha : at_ < 8388608) :
    Calls Tryz.prog 40 #[.pointer (some ⟨p, 0, none⟩), .int .i64 root, .int .u64 at_, .int .i64 3] w (StepY S w p F V (lfVal (tbWalk V F root at_ 3))) := by
  have FR := Lib.hid (fun W (H : PY S W p F V) => py_frames H)
  have ND := Lib.hid (fun W => tb_needs W 3 (by omega))
  have hnd : ((2 ^ 3 : Nat) : Int) = 8 := by decide
  rw [hnd] at ND
  rw [show ((3 : Nat) : Int) = 3 from rfl] at ND
  have d1 : decide ((root : Int) < (0 : Int)) = false := decide_eq_false (by omega)
  have d2 : decide ((F : Int) ≤ (root : Int)) = false := decide_eq_false (by omega)
  have d3 : ¬ F ≤ root := by omega
  have qF : IntKind.u64.wrap (F : Int) = (F : Int) := by rw [u64_wrap]; omega
  have LF := walk_leaf S w p F V h hF root hr at_ ha
  have HX := Lib.hid h
  have bor : bits BinOp.or IntKind.u64 17 8 = 25 := by decide
  cases hl : tbLeaf V F root at_ with
  | none =>
    rw [wk_none hl]
    rw [hl] at LF
    have LF := Lib.hid LF
    clear h hnd ha hF hr hl
    go_enter Tryz.func40, Tryz.ntmps40
    go_wp2_with fail
    refine (FR.out w HX.out).mono ?_
    rintro e w' ⟨rfl, rfl⟩
    go_wp2_with fail
    refine (ND.out w).mono ?_
    rintro e w' ⟨rfl, rfl⟩
    go_wp2_with fail
    refine LF.out.mono ?_
    rintro e w4 ⟨rfl, m4, c4⟩
    have M4 := Lib.hid (And.intro m4 c4); clear m4 c4
    simp only [lfVal]
    go_wp2_with fail
    go_ret2
    exact ⟨rfl, M4.out⟩
  | some x =>
    rw [wk_some hl]
    rw [hl] at LF
    have hx := tbLeaf_lt hl
    have he := entV_lt V x
    have LD := fun W (H : PY S W p F V) => py_load8 H hF x hx (x : Int) rfl
    generalize entV V x = y at *
    have b2 : bits BinOp.and IntKind.u64 (y : Int) 25 = ((y &&& 25 : Nat) : Int) := u64_and_nat y 25 he (by omega)
    have W2 := Lib.hid (want8 y)
    have FY := fun W => tb_frame W y he
    have hmay : tbMay F y 3 = decide (y % 2 ≠ 0 ∧ y / 16 % 2 ≠ 0 ∧ y / 8 % 2 ≠ 0 ∧ y / 1024 < F) := by unfold tbMay; rw [show 2 ^ 3 = 8 from rfl]
    have HMAY := Lib.hid hmay
    have LF := Lib.hid LF; have LD := Lib.hid LD; have FY := Lib.hid FY
    clear h hnd hl he hmay
    by_cases e1 : y &&& 25 = 25
    · have w1 := W2.out.1 e1
      rw [e1] at b2
      by_cases e2 : y / 1024 < F
      · have hm : tbMay F y 3 = true := by rw [HMAY.out]; exact decide_eq_true ⟨w1.1, w1.2.1, w1.2.2, e2⟩
        rw [hm, if_pos rfl]
        generalize y / 1024 = f at *
        have d7 : decide ((F : Int) ≤ (f : Int)) = false := decide_eq_false (by omega)
        have d8 : ¬ F ≤ f := by omega
        have q1 : IntKind.u64.wrap ((f : Int) * 256) = (f : Int) * 256 := by rw [u64_wrap]; omega
        have q2 : IntKind.u64.wrap ((at_ : Int) % 256) = (at_ : Int) % 256 := by rw [u64_wrap]; omega
        have q3 : IntKind.u64.wrap ((f : Int) * 256 + (at_ : Int) % 256) = (f : Int) * 256 + (at_ : Int) % 256 := by rw [u64_wrap]; omega
        clear ha hF hr e1 w1 hm hx
        go_enter Tryz.func40, Tryz.ntmps40
        go_wp2_with fail
        refine (FR.out w HX.out).mono ?_
        rintro e w' ⟨rfl, rfl⟩
        go_wp2_with fail
        refine (ND.out w).mono ?_
        rintro e w' ⟨rfl, rfl⟩
        go_wp2_with fail
        refine LF.out.mono ?_
        rintro e w4 ⟨rfl, m4, c4⟩
        have M4 := Lib.hid (And.intro m4 c4); clear m4 c4
        simp only [lfVal]
        go_wp2_with fail
        refine (LD.out w4 M4.out.1).mono ?_
        rintro e w5 ⟨rfl, m5, c5⟩
        have M5 := Lib.hid (And.intro m5 (M4.out.2.trans c5)); clear m5 c5
        go_wp2_with fail
        refine (ND.out w5).mono ?_
        rintro e w' ⟨rfl, rfl⟩
        go_wp2_with fail
        refine (FY.out w5).mono ?_
        rintro e w' ⟨rfl, rfl⟩
        go_wp2_with fail
        refine (FR.out w5 M5.out.1).mono ?_
        rintro e w' ⟨rfl, rfl⟩
        go_wp2_with fail
        refine (FY.out w5).mono ?_
        rintro e w' ⟨rfl, rfl⟩
        go_wp2_with fail
        go_ret2
        exact ⟨by simp [lfVal], M5.out⟩
      · have hm : tbMay F y 3 = false := by rw [HMAY.out]; exact decide_eq_false (fun h => e2 h.2.2.2)
        rw [hm, if_neg (by decide)]
        generalize y / 1024 = f at *
        have d7 : decide ((F : Int) ≤ (f : Int)) = true := decide_eq_true (by omega)
        clear ha hF hr e1 w1 hm hx
        go_enter Tryz.func40, Tryz.ntmps40
        go_wp2_with fail
        refine (FR.out w HX.out).mono ?_
        rintro e w' ⟨rfl, rfl⟩
        go_wp2_with fail
        refine (ND.out w).mono ?_
        rintro e w' ⟨rfl, rfl⟩
        go_wp2_with fail
        refine LF.out.mono ?_
        rintro e w4 ⟨rfl, m4, c4⟩
        have M4 := Lib.hid (And.intro m4 c4); clear m4 c4
        simp only [lfVal]
        go_wp2_with fail
        refine (LD.out w4 M4.out.1).mono ?_
        rintro e w5 ⟨rfl, m5, c5⟩
        have M5 := Lib.hid (And.intro m5 (M4.out.2.trans c5)); clear m5 c5
        go_wp2_with fail
        refine (ND.out w5).mono ?_
        rintro e w' ⟨rfl, rfl⟩
        go_wp2_with fail
        refine (FY.out w5).mono ?_
        rintro e w' ⟨rfl, rfl⟩
        go_wp2_with fail
        refine (FR.out w5 M5.out.1).mono ?_
        rintro e w' ⟨rfl, rfl⟩
        go_wp2_with fail
        go_ret2
        exact ⟨rfl, M5.out⟩
    · have hm : tbMay F y 3 = false := by rw [HMAY.out]; exact decide_eq_false (fun h => e1 (W2.out.2 ⟨h.1, h.2.1, h.2.2.1⟩))
      rw [hm, if_neg (by decide)]
      generalize y &&& 25 = z at *
      have d6 : ((z : Int) != 25) = true := by simp; omega
      have d6' : ¬ z = 25 := e1
      clear ha hF hr hm hx W2 HMAY
      go_enter Tryz.func40, Tryz.ntmps40
      go_wp2_with fail
      refine (FR.out w HX.out).mono ?_
      rintro e w' ⟨rfl, rfl⟩
      go_wp2_with fail
      refine (ND.out w).mono ?_
      rintro e w' ⟨rfl, rfl⟩
      go_wp2_with fail
      refine LF.out.mono ?_
      rintro e w4 ⟨rfl, m4, c4⟩
      have M4 := Lib.hid (And.intro m4 c4); clear m4 c4
      simp only [lfVal]
      go_wp2_with fail
      refine (LD.out w4 M4.out.1).mono ?_
      rintro e w5 ⟨rfl, m5, c5⟩
      have M5 := Lib.hid (And.intro m5 (M4.out.2.trans c5)); clear m5 c5
      go_wp2_with fail
      refine (ND.out w5).mono ?_
      rintro e w' ⟨rfl, rfl⟩
      go_wp2_with fail
      go_ret2
      exact ⟨rfl, M5.out⟩

end Go.Proofs.YtijooajhjcfneaaGreat

namespace Go.Proofs.YtijooajhjcfneaaGreat
open Go.RowKit

def errV (c : Int) : Value := .tuple #[.int .u64 0, .int .i64 c]
def lfR (V : Nat → Nat) (F : Nat) (root : Int) (at_ : Nat) : Value :=
  if root < 0 ∨ (F : Int) ≤ root then errV 1 else if 8388608 ≤ at_ then errV 3 else lfVal (tbLeaf V F root.toNat at_)
def wkR (V : Nat → Nat) (F : Nat) (root : Int) (at_ : Nat) (acc : Int) : Value :=
  if root < 0 ∨ (F : Int) ≤ root ∨ acc < 1 ∨ 3 < acc then errV 1 else if 8388608 ≤ at_ then errV 3 else lfVal (tbWalk V F root.toNat at_ acc.toNat)

theorem py_same {S : Nat → Prop} {P : Program} {f : FuncId} {args : Array Value} {w : World} {p F : Nat} {V : Nat → Nat} {v : Value} (h : PY S w p F V) (c : Calls P f args w fun e w' => e = .returned v ∧ w = w') : Calls P f args w (StepY S w p F V v) :=
  c.mono fun _ _ ⟨h1, h2⟩ => by subst h2; exact ⟨h1, h, Chg.refl _ _⟩

theorem lf_all (S : Nat → Prop) (w : World) (p F : Nat) (V : Nat → Nat) (h : PY S w p F V) (hF : F ≤ 256) (root : Int) (at_ : Nat) :
    Calls Tryz.prog 56 #[.pointer (some ⟨p, 0, none⟩), .int .i64 root, .int .u64 at_] w (StepY S w p F V (lfR V F root at_)) := by
  unfold lfR
  by_cases h1 : root < 0 ∨ (F : Int) ≤ root
  · rw [if_pos h1]
    exact py_same h (leaf_root S w p F V h root h1 at_)
  · rw [if_neg h1]
    obtain ⟨n, rfl⟩ := Int.eq_ofNat_of_zero_le (show 0 ≤ root by omega)
    by_cases h2 : 8388608 ≤ at_
    · rw [if_pos h2]
      exact py_same h (leaf_beyond S w p F V h n (by omega) at_ h2)
    · rw [if_neg h2, Int.toNat_natCast]
      exact walk_leaf S w p F V h hF n (by omega) at_ (by omega)
theorem wk_all (S : Nat → Prop) (w : World) (p F : Nat) (V : Nat → Nat) (h : PY S w p F V) (hF : F ≤ 256) (root : Int) (at_ : Nat) (acc : Int) :
    Calls Tryz.prog 40 #[.pointer (some ⟨p, 0, none⟩), .int .i64 root, .int .u64 at_, .int .i64 acc] w (StepY S w p F V (wkR V F root at_ acc)) := by
  unfold wkR
  by_cases h1 : root < 0 ∨ (F : Int) ≤ root
  · rw [if_pos (by omega)]
    exact py_same h (wwalk_root S w p F V h root h1 at_ acc)
  · obtain ⟨n, rfl⟩ := Int.eq_ofNat_of_zero_le (show 0 ≤ root by omega)
    by_cases h3 : acc < 1 ∨ 3 < acc
    · rw [if_pos (by omega)]
      exact py_same h (wwalk_acc S w p F V h n (by omega) at_ acc (by omega))
    · rw [if_neg (by omega)]
      by_cases h2 : 8388608 ≤ at_
      · rw [if_pos h2]
        rcases (show acc = 1 ∨ acc = 2 ∨ acc = 3 by omega) with rfl | rfl | rfl
        · exact py_same h (wwalk_beyond1 S w p F V h hF n (by omega) at_ h2)
        · exact py_same h (wwalk_beyond2 S w p F V h hF n (by omega) at_ h2)
        · exact py_same h (wwalk_beyond3 S w p F V h hF n (by omega) at_ h2)
      · rw [if_neg h2, Int.toNat_natCast]
        rcases (show acc = 1 ∨ acc = 2 ∨ acc = 3 by omega) with rfl | rfl | rfl
        · exact wwalk_1 S w p F V h hF n (by omega) at_ (by omega)
        · exact wwalk_2 S w p F V h hF n (by omega) at_ (by omega)
        · exact wwalk_3 S w p F V h hF n (by omega) at_ (by omega)

/-- addresses of one page -/
theorem leaf_page (V : Nat → Nat) (F root a b : Nat) (h : a / 256 = b / 256) : tbLeaf V F root a = tbLeaf V F root b := by
  have h1 : a / 8192 = b / 8192 := by rw [show 8192 = 256 * 32 from rfl, ← Nat.div_div_eq_div_mul, ← Nat.div_div_eq_div_mul, h]
  have h2 : a / 262144 = b / 262144 := by rw [show 262144 = 256 * 1024 from rfl, ← Nat.div_div_eq_div_mul, ← Nat.div_div_eq_div_mul, h]
  unfold tbLeaf
  rw [h, h1, h2]
theorem wk_split (V : Nat → Nat) (F : Nat) (root : Int) (a b : Nat) (acc : Int) (h : a / 256 = b / 256) :
    (∃ c : Int, (c = 1 ∨ c = 3) ∧ wkR V F root a acc = errV c ∧ wkR V F root b acc = errV c) ∨
    (∃ f : Nat, f < F ∧ wkR V F root a acc = .tuple #[.int .u64 ((f * 256 + a % 256 : Nat) : Int), .int .i64 0] ∧ wkR V F root b acc = .tuple #[.int .u64 ((f * 256 + b % 256 : Nat) : Int), .int .i64 0]) := by
  unfold wkR
  by_cases h1 : root < 0 ∨ (F : Int) ≤ root ∨ acc < 1 ∨ 3 < acc
  · rw [if_pos h1, if_pos h1]
    exact .inl ⟨1, .inl rfl, rfl, rfl⟩
  · rw [if_neg h1, if_neg h1]
    by_cases h2 : 8388608 ≤ a
    · rw [if_pos h2, if_pos (by omega)]
      exact .inl ⟨3, .inr rfl, rfl, rfl⟩
    · rw [if_neg h2, if_neg (by omega)]
      have hp := leaf_page V F root.toNat a b h
      cases hl : tbLeaf V F root.toNat a with
      | none => exact .inl ⟨3, .inr rfl, by rw [wk_none hl]; rfl, by rw [wk_none (hp ▸ hl)]; rfl⟩
      | some x =>
        rw [wk_some hl, wk_some (hp ▸ hl)]
        generalize entV V x = y
        by_cases hm : tbMay F y acc.toNat = true
        · rw [if_pos hm, if_pos hm]
          have hlt : y / 1024 < F := by unfold tbMay at hm; exact (of_decide_eq_true hm).2.2.2
          exact .inr ⟨y / 1024, hlt, rfl, rfl⟩
        · rw [if_neg hm, if_neg hm]
          exact .inl ⟨3, .inr rfl, rfl, rfl⟩
end Go.Proofs.YtijooajhjcfneaaGreat

namespace Go.Proofs.YtijooajhjcfneaaGreat
open Go.RowKit

theorem te_entry (w : World) (f b : Nat) (hf : f < 18014398509481984) (hb : b < 18446744073709551616) (x y : Int) (hx : x = (f : Int)) (hy : y = (b : Int)) :
    Calls Tryz.prog 85 #[.int .i64 x, .int .u64 y] w fun e w' => e = .returned (.int .u64 (f * 1024 + b % 1024 : Nat)) ∧ w = w' := by
  subst hx hy
  have d1 : decide ((f : Int) < (0 : Int)) = false := decide_eq_false (by omega)
  have q0 : IntKind.u64.wrap (f : Int) = (f : Int) := u64_wrap_lt f (by omega)
  have q1 : IntKind.u64.wrap ((f : Int) * 1024) = ((f * 1024 : Nat) : Int) := by rw [u64_wrap]; omega
  have b1 : bits BinOp.and IntKind.u64 (b : Int) 1023 = ((b % 1024 : Nat) : Int) := by
    have h1 := u64_and_nat b 1023 hb (by omega)
    rw [Nat.and_two_pow_sub_one_eq_mod b 10] at h1
    exact h1
  have hz : b % 1024 < 1024 := Nat.mod_lt _ (by decide)
  generalize b % 1024 = z at *
  have b2 : bits BinOp.or IntKind.u64 ((f * 1024 : Nat) : Int) (z : Int) = ((f * 1024 + z : Nat) : Int) := by
    rw [u64_or_nat (f * 1024) z (by omega) (by omega), nat_join 10 (f * 1024) z (Nat.mul_mod_left _ _) hz]
  obtain ⟨g, hg⟩ : ∃ g, g = f * 1024 := ⟨_, rfl⟩
  rw [← hg] at q1 b2 ⊢
  have q2 : (f : Int) * 1024 = (g : Int) := by omega
  have q3 : IntKind.u64.wrap (g : Int) = (g : Int) := u64_wrap_lt g (by omega)
  clear hg hf hb hz
  go_enter Tryz.func85, Tryz.ntmps85
  go_wp2_with fail
  go_ret
  exact ⟨by simp, rfl⟩
end Go.Proofs.YtijooajhjcfneaaGreat
