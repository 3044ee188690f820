/-
  The walk of the statement WalkKinds: true, for every input.
-/
import Derived.Test.YtodjmfmenfncdaaTyShown
import Derived.Test.YtodjmfmenfncdaaTyEntry
import Derived.Test.YtodjmfmenfncdaaSpLaw1
namespace Go.Proofs.Ytodjmfmenfncdaa
open Go.RowKit

def kC (e : Nat) : Array Value := #[.int .u64 0, .int .u64 1025, .int .u64 256, .int .u64 2049, .int .u64 512, .int .u64 e]
def kV (e : Nat) (i j : Nat) : Value := (kC e).getD (i * 2 + j) (.int .u64 0)
theorem kV_wf (e : Nat) (he : e < 18446744073709551616) : ∀ i, i < 3 → ∀ j, j < 2 → ∃ x : Int, kV e i j = .int .u64 x ∧ (Lit.int .u64 x).wf = true := by
  intro i hi j hj
  have hw : (Lit.int .u64 (e : Int)).wf = true := WalkArith.wf_u64 (by omega)
  rcases (show i = 0 ∨ i = 1 ∨ i = 2 by omega) with rfl | rfl | rfl <;> rcases (show j = 0 ∨ j = 1 by omega) with rfl | rfl
  all_goals first | exact ⟨_, rfl, hw⟩ | exact ⟨_, rfl, by decide⟩
theorem k_mem (e : Nat) : memF (kV e) 3 = stV 8 (stV 8 (stV 8 (fun _ => 0) (0 * 256 + 8 * 0) 8 1025) (1 * 256 + 8 * 0) 8 2049) (2 * 256 + 8 * 0) 8 e := rfl
theorem k_ents (e : Nat) (he : e < 18446744073709551616) : entV (memF (kV e) 3) 0 = 1025 ∧ entV (memF (kV e) 3) 256 = 2049 ∧ entV (memF (kV e) 3) 512 = e := by
  rw [k_mem]
  refine ⟨?_, ?_, ?_⟩
  · show ent _ 0 0 = 1025
    rw [ent_st_other _ _ (by omega) (by omega) (by omega), ent_st_other _ _ (by omega) (by omega) (by omega), ent_st_same _ _ (by omega) (by omega) (by omega)]
  · show ent _ 1 0 = 2049
    rw [ent_st_other _ _ (by omega) (by omega) (by omega), ent_st_same _ _ (by omega) (by omega) (by omega)]
  · show ent _ 2 0 = e
    rw [ent_st_same _ _ he (by omega) (by omega)]
theorem k_leaf (V : Nat → Nat) (h0 : entV V 0 = 1025) (h1 : entV V 256 = 2049) : tbLeaf V 8 0 5 = some 512 :=
  lf_some (V := V) (F := 8) (root := 0) (at_ := 5) (a := 1) (b := 2) (by show tbGo 8 (entV V 0) = some 1; rw [h0]; decide) (by show tbGo 8 (entV V 256) = some 2; rw [h1]; decide)

theorem k_walk1 (V : Nat → Nat) (b : Nat) (h0 : entV V 0 = 1025) (h1 : entV V 256 = 2049) (h2 : entV V 512 = 3 * 1024 + b % 1024) : wkR V 8 0 5 1 = if b &&& 19 = 19 then .tuple #[.int .u64 773, .int .i64 0] else errV 3 := by
  unfold wkR
  rw [if_neg (by omega), if_neg (by omega)]
  show lfVal (tbWalk V 8 0 5 1) = _
  rw [wk_some (k_leaf V h0 h1), h2]
  have hz := Nat.mod_lt b (show 1024 > 0 by decide)
  have hw := want2 b
  have hm : tbMay 8 (3 * 1024 + b % 1024) 1 = decide (b % 2 ≠ 0 ∧ b / 16 % 2 ≠ 0 ∧ b / 2 % 2 ≠ 0) := by
    unfold tbMay
    rw [show 2 ^ 1 = 2 from rfl, decide_eq_decide]
    omega
  have hx : (3 * 1024 + b % 1024) / 1024 * 256 + 5 % 256 = 773 := by omega
  rw [hm, hx]
  by_cases e : b &&& 19 = 19
  · rw [if_pos e, decide_eq_true (hw.1 e)]; rfl
  · rw [if_neg e, decide_eq_false (fun h => e (hw.2 h))]; rfl

theorem k_walk2 (V : Nat → Nat) (b : Nat) (h0 : entV V 0 = 1025) (h1 : entV V 256 = 2049) (h2 : entV V 512 = 3 * 1024 + b % 1024) : wkR V 8 0 5 2 = if b &&& 21 = 21 then .tuple #[.int .u64 773, .int .i64 0] else errV 3 := by
  unfold wkR
  rw [if_neg (by omega), if_neg (by omega)]
  show lfVal (tbWalk V 8 0 5 2) = _
  rw [wk_some (k_leaf V h0 h1), h2]
  have hz := Nat.mod_lt b (show 1024 > 0 by decide)
  have hw := want4 b
  have hm : tbMay 8 (3 * 1024 + b % 1024) 2 = decide (b % 2 ≠ 0 ∧ b / 16 % 2 ≠ 0 ∧ b / 4 % 2 ≠ 0) := by
    unfold tbMay
    rw [show 2 ^ 2 = 4 from rfl, decide_eq_decide]
    omega
  have hx : (3 * 1024 + b % 1024) / 1024 * 256 + 5 % 256 = 773 := by omega
  rw [hm, hx]
  by_cases e : b &&& 21 = 21
  · rw [if_pos e, decide_eq_true (hw.1 e)]; rfl
  · rw [if_neg e, decide_eq_false (fun h => e (hw.2 h))]; rfl

theorem k_walk3 (V : Nat → Nat) (b : Nat) (h0 : entV V 0 = 1025) (h1 : entV V 256 = 2049) (h2 : entV V 512 = 3 * 1024 + b % 1024) : wkR V 8 0 5 3 = if b &&& 25 = 25 then .tuple #[.int .u64 773, .int .i64 0] else errV 3 := by
  unfold wkR
  rw [if_neg (by omega), if_neg (by omega)]
  show lfVal (tbWalk V 8 0 5 3) = _
  rw [wk_some (k_leaf V h0 h1), h2]
  have hz := Nat.mod_lt b (show 1024 > 0 by decide)
  have hw := want8 b
  have hm : tbMay 8 (3 * 1024 + b % 1024) 3 = decide (b % 2 ≠ 0 ∧ b / 16 % 2 ≠ 0 ∧ b / 8 % 2 ≠ 0) := by
    unfold tbMay
    rw [show 2 ^ 3 = 8 from rfl, decide_eq_decide]
    omega
  have hx : (3 * 1024 + b % 1024) / 1024 * 256 + 5 % 256 = 773 := by omega
  rw [hm, hx]
  by_cases e : b &&& 25 = 25
  · rw [if_pos e, decide_eq_true (hw.1 e)]; rfl
  · rw [if_neg e, decide_eq_false (fun h => e (hw.2 h))]; rfl

set_option maxRecDepth 100000 in
set_option maxHeartbeats 1600000 in
theorem kinds_low (w : World) (b : Nat) (hb : b < 18446744073709551616) (acc : Int) (ha : acc < 1) :
    Calls Try.prog 6 #[.int .u64 b, .int .i64 acc] w fun e w' => e = .returned (.bool true) ∧ Below w.heap.size w w' := by
  have hz := Nat.mod_lt b (show 1024 > 0 by decide)
  have KE := fun W => Lib.hid (te_entry W 3 b (by omega) hb 3 (b : Int) rfl rfl)
  obtain ⟨ee, hee⟩ : ∃ ee, ee = 3 * 1024 + b % 1024 := ⟨_, rfl⟩
  rw [← hee] at KE
  have hel : ee < 18446744073709551616 := by omega
  obtain ⟨v0, v1, v2⟩ := k_ents ee hel
  have hrow : ∀ W : World, SRow (W.alloc (.cells (kC ee) 40)) (some ⟨W.heap.size, 0, none⟩) 3 2 (kV ee) := fun W => by
    refine .inr ⟨W.heap.size, 0, rfl, by simp, fun i hi j hj => ?_⟩
    rw [(Blk.new W (kC ee) 40).cell]
    rcases (show i = 0 ∨ i = 1 ∨ i = 2 by omega) with rfl | rfl | rfl <;> rcases (show j = 0 ∨ j = 1 by omega) with rfl | rfl <;> rfl
  have KM := fun W => Lib.hid (law_memory _ _ 3 3 (kV ee) (hrow W) (fun i hi => kV_wf ee hel i hi 0 (by omega)) (fun i hi => kV_wf ee hel i hi 1 (by omega)) (by omega))
  have hal : ∀ W : World, W.heap.size ≤ (W.alloc (.cells (kC ee) 40)).heap.size ∧ Below W.heap.size W (W.alloc (.cells (kC ee) 40)) := fun W => ⟨by simp, (Below.refl _ _).alloc (Nat.le_refl _) _⟩
  have HAL := Lib.hid hal
  generalize memF (kV ee) 3 = V at *
  have KW := fun B W p r (H : PX (fun k => k < B) W p r 8 V V) => Lib.hid (x_wk _ W p r 8 V V H (by omega) 0 5 acc)
  have hw : wkR V 8 0 5 acc = errV 1 := by unfold wkR; rw [if_pos (by omega)]
  rw [hw] at KW
  have d1 : decide (acc < 1) = true := decide_eq_true ha
  clear hw
  try simp only [errV] at KW
  have KE := Lib.hid KE; have KM := Lib.hid KM; have KW := Lib.hid KW
  clear hz hee hel v0 v1 v2 hrow hal
  unfold kC at KM HAL
  go_enter Try.func6, Try.ntmps6
  go_wp2_with fail
  refine (tshown w).mono ?_
  rintro e w1 ⟨rfl, b1⟩
  have B1 := Lib.hid b1; clear b1
  go_wp2_with fail
  refine (KE.out w1).out.mono ?_
  rintro e w2 ⟨rfl, rfl⟩
  go_wp2_with fail
  refine (KM.out w1).out.mono ?_
  rintro e w2 ⟨p, r, rfl, m2, b2⟩
  have hw0 := And.intro (B1.out.trans ((HAL.out w1).2.mono B1.out.size)) (Nat.le_trans B1.out.size (HAL.out w1).1)
  have M2 := Lib.hid m2; have B2 := Lib.hid b2; clear m2 b2
  generalize w1.alloc _ = wa at *
  have HW := Lib.hid hw0; clear hw0
  go_wp2_with fail
  refine (KW.out _ w2 p r M2.out).out.mono ?_
  rintro e w3 ⟨rfl, m3, c3⟩
  have B3 := Lib.hid (B2.out.trans (c3.below (B := wa.heap.size) B2.out.size (fun _ h => Nat.le_of_not_lt h))); clear m3 c3
  have FIN := Lib.hid (fun o => HW.out.1.trans ((B3.out.alloc (B3.out.size) o).mono HW.out.2))
  go_wp2_with fail
  go_ret
  exact ⟨rfl, FIN.out _⟩

set_option maxRecDepth 100000 in
set_option maxHeartbeats 1600000 in
theorem kinds_high (w : World) (b : Nat) (hb : b < 18446744073709551616) (acc : Int) (ha : 3 < acc) :
    Calls Try.prog 6 #[.int .u64 b, .int .i64 acc] w fun e w' => e = .returned (.bool true) ∧ Below w.heap.size w w' := by
  have hz := Nat.mod_lt b (show 1024 > 0 by decide)
  have KE := fun W => Lib.hid (te_entry W 3 b (by omega) hb 3 (b : Int) rfl rfl)
  obtain ⟨ee, hee⟩ : ∃ ee, ee = 3 * 1024 + b % 1024 := ⟨_, rfl⟩
  rw [← hee] at KE
  have hel : ee < 18446744073709551616 := by omega
  obtain ⟨v0, v1, v2⟩ := k_ents ee hel
  have hrow : ∀ W : World, SRow (W.alloc (.cells (kC ee) 40)) (some ⟨W.heap.size, 0, none⟩) 3 2 (kV ee) := fun W => by
    refine .inr ⟨W.heap.size, 0, rfl, by simp, fun i hi j hj => ?_⟩
    rw [(Blk.new W (kC ee) 40).cell]
    rcases (show i = 0 ∨ i = 1 ∨ i = 2 by omega) with rfl | rfl | rfl <;> rcases (show j = 0 ∨ j = 1 by omega) with rfl | rfl <;> rfl
  have KM := fun W => Lib.hid (law_memory _ _ 3 3 (kV ee) (hrow W) (fun i hi => kV_wf ee hel i hi 0 (by omega)) (fun i hi => kV_wf ee hel i hi 1 (by omega)) (by omega))
  have hal : ∀ W : World, W.heap.size ≤ (W.alloc (.cells (kC ee) 40)).heap.size ∧ Below W.heap.size W (W.alloc (.cells (kC ee) 40)) := fun W => ⟨by simp, (Below.refl _ _).alloc (Nat.le_refl _) _⟩
  have HAL := Lib.hid hal
  generalize memF (kV ee) 3 = V at *
  have KW := fun B W p r (H : PX (fun k => k < B) W p r 8 V V) => Lib.hid (x_wk _ W p r 8 V V H (by omega) 0 5 acc)
  have hw : wkR V 8 0 5 acc = errV 1 := by unfold wkR; rw [if_pos (by omega)]
  rw [hw] at KW
  have d1 : decide (acc < 1) = false := decide_eq_false (by omega)
  have d2 : decide (3 < acc) = true := decide_eq_true ha
  have d3 : ¬ acc < 1 := by omega
  clear hw
  try simp only [errV] at KW
  have KE := Lib.hid KE; have KM := Lib.hid KM; have KW := Lib.hid KW
  clear hz hee hel v0 v1 v2 hrow hal
  unfold kC at KM HAL
  go_enter Try.func6, Try.ntmps6
  go_wp2_with fail
  refine (tshown w).mono ?_
  rintro e w1 ⟨rfl, b1⟩
  have B1 := Lib.hid b1; clear b1
  go_wp2_with fail
  refine (KE.out w1).out.mono ?_
  rintro e w2 ⟨rfl, rfl⟩
  go_wp2_with fail
  refine (KM.out w1).out.mono ?_
  rintro e w2 ⟨p, r, rfl, m2, b2⟩
  have hw0 := And.intro (B1.out.trans ((HAL.out w1).2.mono B1.out.size)) (Nat.le_trans B1.out.size (HAL.out w1).1)
  have M2 := Lib.hid m2; have B2 := Lib.hid b2; clear m2 b2
  generalize w1.alloc _ = wa at *
  have HW := Lib.hid hw0; clear hw0
  go_wp2_with fail
  refine (KW.out _ w2 p r M2.out).out.mono ?_
  rintro e w3 ⟨rfl, m3, c3⟩
  have B3 := Lib.hid (B2.out.trans (c3.below (B := wa.heap.size) B2.out.size (fun _ h => Nat.le_of_not_lt h))); clear m3 c3
  have FIN := Lib.hid (fun o => HW.out.1.trans ((B3.out.alloc (B3.out.size) o).mono HW.out.2))
  go_wp2_with fail
  go_ret
  exact ⟨rfl, FIN.out _⟩

set_option maxRecDepth 100000 in
set_option maxHeartbeats 1600000 in
theorem kinds_yes1 (w : World) (b : Nat) (hb : b < 18446744073709551616) (e1 : b &&& 19 = 19) :
    Calls Try.prog 6 #[.int .u64 b, .int .i64 1] w fun e w' => e = .returned (.bool true) ∧ Below w.heap.size w w' := by
  have hz := Nat.mod_lt b (show 1024 > 0 by decide)
  have KE := fun W => Lib.hid (te_entry W 3 b (by omega) hb 3 (b : Int) rfl rfl)
  obtain ⟨ee, hee⟩ : ∃ ee, ee = 3 * 1024 + b % 1024 := ⟨_, rfl⟩
  rw [← hee] at KE
  have hel : ee < 18446744073709551616 := by omega
  obtain ⟨v0, v1, v2⟩ := k_ents ee hel
  have hrow : ∀ W : World, SRow (W.alloc (.cells (kC ee) 40)) (some ⟨W.heap.size, 0, none⟩) 3 2 (kV ee) := fun W => by
    refine .inr ⟨W.heap.size, 0, rfl, by simp, fun i hi j hj => ?_⟩
    rw [(Blk.new W (kC ee) 40).cell]
    rcases (show i = 0 ∨ i = 1 ∨ i = 2 by omega) with rfl | rfl | rfl <;> rcases (show j = 0 ∨ j = 1 by omega) with rfl | rfl <;> rfl
  have KM := fun W => Lib.hid (law_memory _ _ 3 3 (kV ee) (hrow W) (fun i hi => kV_wf ee hel i hi 0 (by omega)) (fun i hi => kV_wf ee hel i hi 1 (by omega)) (by omega))
  have hal : ∀ W : World, W.heap.size ≤ (W.alloc (.cells (kC ee) 40)).heap.size ∧ Below W.heap.size W (W.alloc (.cells (kC ee) 40)) := fun W => ⟨by simp, (Below.refl _ _).alloc (Nat.le_refl _) _⟩
  have HAL := Lib.hid hal
  generalize memF (kV ee) 3 = V at *
  have KW := fun B W p r (H : PX (fun k => k < B) W p r 8 V V) => Lib.hid (x_wk _ W p r 8 V V H (by omega) 0 5 1)
  have hw := k_walk1 V b v0 v1 (by rw [v2, hee])
  rw [if_pos e1] at hw
  rw [hw] at KW
  have c1 : bits BinOp.or IntKind.u64 17 2 = 19 := by decide
  have c2 : bits BinOp.and IntKind.u64 (b : Int) 19 = 19 := by
    have := u64_and_nat b 19 hb (by omega)
    rw [e1] at this
    exact this
  clear hw e1
  try simp only [errV] at KW
  have KE := Lib.hid KE; have KM := Lib.hid KM; have KW := Lib.hid KW
  clear hz hee hel v0 v1 v2 hrow hal
  unfold kC at KM HAL
  go_enter Try.func6, Try.ntmps6
  go_wp2_with fail
  refine (tshown w).mono ?_
  rintro e w1 ⟨rfl, b1⟩
  have B1 := Lib.hid b1; clear b1
  go_wp2_with fail
  refine (KE.out w1).out.mono ?_
  rintro e w2 ⟨rfl, rfl⟩
  go_wp2_with fail
  refine (KM.out w1).out.mono ?_
  rintro e w2 ⟨p, r, rfl, m2, b2⟩
  have hw0 := And.intro (B1.out.trans ((HAL.out w1).2.mono B1.out.size)) (Nat.le_trans B1.out.size (HAL.out w1).1)
  have M2 := Lib.hid m2; have B2 := Lib.hid b2; clear m2 b2
  generalize w1.alloc _ = wa at *
  have HW := Lib.hid hw0; clear hw0
  go_wp2_with fail
  refine (KW.out _ w2 p r M2.out).out.mono ?_
  rintro e w3 ⟨rfl, m3, c3⟩
  have B3 := Lib.hid (B2.out.trans (c3.below (B := wa.heap.size) B2.out.size (fun _ h => Nat.le_of_not_lt h))); clear m3 c3
  have FIN := Lib.hid (fun o => HW.out.1.trans ((B3.out.alloc (B3.out.size) o).mono HW.out.2))
  go_wp2_with fail
  go_ret
  exact ⟨rfl, FIN.out _⟩

set_option maxRecDepth 100000 in
set_option maxHeartbeats 1600000 in
theorem kinds_no1 (w : World) (b : Nat) (hb : b < 18446744073709551616) (e1 : b &&& 19 ≠ 19) :
    Calls Try.prog 6 #[.int .u64 b, .int .i64 1] w fun e w' => e = .returned (.bool true) ∧ Below w.heap.size w w' := by
  have hz := Nat.mod_lt b (show 1024 > 0 by decide)
  have KE := fun W => Lib.hid (te_entry W 3 b (by omega) hb 3 (b : Int) rfl rfl)
  obtain ⟨ee, hee⟩ : ∃ ee, ee = 3 * 1024 + b % 1024 := ⟨_, rfl⟩
  rw [← hee] at KE
  have hel : ee < 18446744073709551616 := by omega
  obtain ⟨v0, v1, v2⟩ := k_ents ee hel
  have hrow : ∀ W : World, SRow (W.alloc (.cells (kC ee) 40)) (some ⟨W.heap.size, 0, none⟩) 3 2 (kV ee) := fun W => by
    refine .inr ⟨W.heap.size, 0, rfl, by simp, fun i hi j hj => ?_⟩
    rw [(Blk.new W (kC ee) 40).cell]
    rcases (show i = 0 ∨ i = 1 ∨ i = 2 by omega) with rfl | rfl | rfl <;> rcases (show j = 0 ∨ j = 1 by omega) with rfl | rfl <;> rfl
  have KM := fun W => Lib.hid (law_memory _ _ 3 3 (kV ee) (hrow W) (fun i hi => kV_wf ee hel i hi 0 (by omega)) (fun i hi => kV_wf ee hel i hi 1 (by omega)) (by omega))
  have hal : ∀ W : World, W.heap.size ≤ (W.alloc (.cells (kC ee) 40)).heap.size ∧ Below W.heap.size W (W.alloc (.cells (kC ee) 40)) := fun W => ⟨by simp, (Below.refl _ _).alloc (Nat.le_refl _) _⟩
  have HAL := Lib.hid hal
  generalize memF (kV ee) 3 = V at *
  have KW := fun B W p r (H : PX (fun k => k < B) W p r 8 V V) => Lib.hid (x_wk _ W p r 8 V V H (by omega) 0 5 1)
  have hw := k_walk1 V b v0 v1 (by rw [v2, hee])
  rw [if_neg e1] at hw
  rw [hw] at KW
  have c1 : bits BinOp.or IntKind.u64 17 2 = 19 := by decide
  have c2 : bits BinOp.and IntKind.u64 (b : Int) 19 = ((b &&& 19 : Nat) : Int) := u64_and_nat b 19 hb (by omega)
  generalize b &&& 19 = z at *
  have c3 : ((z : Int) == 19) = false := by simp; omega
  have c4 : ¬ z = 19 := e1
  clear hw e1
  try simp only [errV] at KW
  have KE := Lib.hid KE; have KM := Lib.hid KM; have KW := Lib.hid KW
  clear hz hee hel v0 v1 v2 hrow hal
  unfold kC at KM HAL
  go_enter Try.func6, Try.ntmps6
  go_wp2_with fail
  refine (tshown w).mono ?_
  rintro e w1 ⟨rfl, b1⟩
  have B1 := Lib.hid b1; clear b1
  go_wp2_with fail
  refine (KE.out w1).out.mono ?_
  rintro e w2 ⟨rfl, rfl⟩
  go_wp2_with fail
  refine (KM.out w1).out.mono ?_
  rintro e w2 ⟨p, r, rfl, m2, b2⟩
  have hw0 := And.intro (B1.out.trans ((HAL.out w1).2.mono B1.out.size)) (Nat.le_trans B1.out.size (HAL.out w1).1)
  have M2 := Lib.hid m2; have B2 := Lib.hid b2; clear m2 b2
  generalize w1.alloc _ = wa at *
  have HW := Lib.hid hw0; clear hw0
  go_wp2_with fail
  refine (KW.out _ w2 p r M2.out).out.mono ?_
  rintro e w3 ⟨rfl, m3, c3⟩
  have B3 := Lib.hid (B2.out.trans (c3.below (B := wa.heap.size) B2.out.size (fun _ h => Nat.le_of_not_lt h))); clear m3 c3
  have FIN := Lib.hid (fun o => HW.out.1.trans ((B3.out.alloc (B3.out.size) o).mono HW.out.2))
  go_wp2_with fail
  go_ret
  exact ⟨rfl, FIN.out _⟩

set_option maxRecDepth 100000 in
set_option maxHeartbeats 1600000 in
theorem kinds_yes2 (w : World) (b : Nat) (hb : b < 18446744073709551616) (e1 : b &&& 21 = 21) :
    Calls Try.prog 6 #[.int .u64 b, .int .i64 2] w fun e w' => e = .returned (.bool true) ∧ Below w.heap.size w w' := by
  have hz := Nat.mod_lt b (show 1024 > 0 by decide)
  have KE := fun W => Lib.hid (te_entry W 3 b (by omega) hb 3 (b : Int) rfl rfl)
  obtain ⟨ee, hee⟩ : ∃ ee, ee = 3 * 1024 + b % 1024 := ⟨_, rfl⟩
  rw [← hee] at KE
  have hel : ee < 18446744073709551616 := by omega
  obtain ⟨v0, v1, v2⟩ := k_ents ee hel
  have hrow : ∀ W : World, SRow (W.alloc (.cells (kC ee) 40)) (some ⟨W.heap.size, 0, none⟩) 3 2 (kV ee) := fun W => by
    refine .inr ⟨W.heap.size, 0, rfl, by simp, fun i hi j hj => ?_⟩
    rw [(Blk.new W (kC ee) 40).cell]
    rcases (show i = 0 ∨ i = 1 ∨ i = 2 by omega) with rfl | rfl | rfl <;> rcases (show j = 0 ∨ j = 1 by omega) with rfl | rfl <;> rfl
  have KM := fun W => Lib.hid (law_memory _ _ 3 3 (kV ee) (hrow W) (fun i hi => kV_wf ee hel i hi 0 (by omega)) (fun i hi => kV_wf ee hel i hi 1 (by omega)) (by omega))
  have hal : ∀ W : World, W.heap.size ≤ (W.alloc (.cells (kC ee) 40)).heap.size ∧ Below W.heap.size W (W.alloc (.cells (kC ee) 40)) := fun W => ⟨by simp, (Below.refl _ _).alloc (Nat.le_refl _) _⟩
  have HAL := Lib.hid hal
  generalize memF (kV ee) 3 = V at *
  have KW := fun B W p r (H : PX (fun k => k < B) W p r 8 V V) => Lib.hid (x_wk _ W p r 8 V V H (by omega) 0 5 2)
  have hw := k_walk2 V b v0 v1 (by rw [v2, hee])
  rw [if_pos e1] at hw
  rw [hw] at KW
  have c1 : bits BinOp.or IntKind.u64 17 4 = 21 := by decide
  have c2 : bits BinOp.and IntKind.u64 (b : Int) 21 = 21 := by
    have := u64_and_nat b 21 hb (by omega)
    rw [e1] at this
    exact this
  clear hw e1
  try simp only [errV] at KW
  have KE := Lib.hid KE; have KM := Lib.hid KM; have KW := Lib.hid KW
  clear hz hee hel v0 v1 v2 hrow hal
  unfold kC at KM HAL
  go_enter Try.func6, Try.ntmps6
  go_wp2_with fail
  refine (tshown w).mono ?_
  rintro e w1 ⟨rfl, b1⟩
  have B1 := Lib.hid b1; clear b1
  go_wp2_with fail
  refine (KE.out w1).out.mono ?_
  rintro e w2 ⟨rfl, rfl⟩
  go_wp2_with fail
  refine (KM.out w1).out.mono ?_
  rintro e w2 ⟨p, r, rfl, m2, b2⟩
  have hw0 := And.intro (B1.out.trans ((HAL.out w1).2.mono B1.out.size)) (Nat.le_trans B1.out.size (HAL.out w1).1)
  have M2 := Lib.hid m2; have B2 := Lib.hid b2; clear m2 b2
  generalize w1.alloc _ = wa at *
  have HW := Lib.hid hw0; clear hw0
  go_wp2_with fail
  refine (KW.out _ w2 p r M2.out).out.mono ?_
  rintro e w3 ⟨rfl, m3, c3⟩
  have B3 := Lib.hid (B2.out.trans (c3.below (B := wa.heap.size) B2.out.size (fun _ h => Nat.le_of_not_lt h))); clear m3 c3
  have FIN := Lib.hid (fun o => HW.out.1.trans ((B3.out.alloc (B3.out.size) o).mono HW.out.2))
  go_wp2_with fail
  go_ret
  exact ⟨rfl, FIN.out _⟩

set_option maxRecDepth 100000 in
set_option maxHeartbeats 1600000 in
theorem kinds_no2 (w : World) (b : Nat) (hb : b < 18446744073709551616) (e1 : b &&& 21 ≠ 21) :
    Calls Try.prog 6 #[.int .u64 b, .int .i64 2] w fun e w' => e = .returned (.bool true) ∧ Below w.heap.size w w' := by
  have hz := Nat.mod_lt b (show 1024 > 0 by decide)
  have KE := fun W => Lib.hid (te_entry W 3 b (by omega) hb 3 (b : Int) rfl rfl)
  obtain ⟨ee, hee⟩ : ∃ ee, ee = 3 * 1024 + b % 1024 := ⟨_, rfl⟩
  rw [← hee] at KE
  have hel : ee < 18446744073709551616 := by omega
  obtain ⟨v0, v1, v2⟩ := k_ents ee hel
  have hrow : ∀ W : World, SRow (W.alloc (.cells (kC ee) 40)) (some ⟨W.heap.size, 0, none⟩) 3 2 (kV ee) := fun W => by
    refine .inr ⟨W.heap.size, 0, rfl, by simp, fun i hi j hj => ?_⟩
    rw [(Blk.new W (kC ee) 40).cell]
    rcases (show i = 0 ∨ i = 1 ∨ i = 2 by omega) with rfl | rfl | rfl <;> rcases (show j = 0 ∨ j = 1 by omega) with rfl | rfl <;> rfl
  have KM := fun W => Lib.hid (law_memory _ _ 3 3 (kV ee) (hrow W) (fun i hi => kV_wf ee hel i hi 0 (by omega)) (fun i hi => kV_wf ee hel i hi 1 (by omega)) (by omega))
  have hal : ∀ W : World, W.heap.size ≤ (W.alloc (.cells (kC ee) 40)).heap.size ∧ Below W.heap.size W (W.alloc (.cells (kC ee) 40)) := fun W => ⟨by simp, (Below.refl _ _).alloc (Nat.le_refl _) _⟩
  have HAL := Lib.hid hal
  generalize memF (kV ee) 3 = V at *
  have KW := fun B W p r (H : PX (fun k => k < B) W p r 8 V V) => Lib.hid (x_wk _ W p r 8 V V H (by omega) 0 5 2)
  have hw := k_walk2 V b v0 v1 (by rw [v2, hee])
  rw [if_neg e1] at hw
  rw [hw] at KW
  have c1 : bits BinOp.or IntKind.u64 17 4 = 21 := by decide
  have c2 : bits BinOp.and IntKind.u64 (b : Int) 21 = ((b &&& 21 : Nat) : Int) := u64_and_nat b 21 hb (by omega)
  generalize b &&& 21 = z at *
  have c3 : ((z : Int) == 21) = false := by simp; omega
  have c4 : ¬ z = 21 := e1
  clear hw e1
  try simp only [errV] at KW
  have KE := Lib.hid KE; have KM := Lib.hid KM; have KW := Lib.hid KW
  clear hz hee hel v0 v1 v2 hrow hal
  unfold kC at KM HAL
  go_enter Try.func6, Try.ntmps6
  go_wp2_with fail
  refine (tshown w).mono ?_
  rintro e w1 ⟨rfl, b1⟩
  have B1 := Lib.hid b1; clear b1
  go_wp2_with fail
  refine (KE.out w1).out.mono ?_
  rintro e w2 ⟨rfl, rfl⟩
  go_wp2_with fail
  refine (KM.out w1).out.mono ?_
  rintro e w2 ⟨p, r, rfl, m2, b2⟩
  have hw0 := And.intro (B1.out.trans ((HAL.out w1).2.mono B1.out.size)) (Nat.le_trans B1.out.size (HAL.out w1).1)
  have M2 := Lib.hid m2; have B2 := Lib.hid b2; clear m2 b2
  generalize w1.alloc _ = wa at *
  have HW := Lib.hid hw0; clear hw0
  go_wp2_with fail
  refine (KW.out _ w2 p r M2.out).out.mono ?_
  rintro e w3 ⟨rfl, m3, c3⟩
  have B3 := Lib.hid (B2.out.trans (c3.below (B := wa.heap.size) B2.out.size (fun _ h => Nat.le_of_not_lt h))); clear m3 c3
  have FIN := Lib.hid (fun o => HW.out.1.trans ((B3.out.alloc (B3.out.size) o).mono HW.out.2))
  go_wp2_with fail
  go_ret
  exact ⟨rfl, FIN.out _⟩

set_option maxRecDepth 100000 in
set_option maxHeartbeats 1600000 in
theorem kinds_yes3 (w : World) (b : Nat) (hb : b < 18446744073709551616) (e1 : b &&& 25 = 25) :
    Calls Try.prog 6 #[.int .u64 b, .int .i64 3] w fun e w' => e = .returned (.bool true) ∧ Below w.heap.size w w' := by
  have hz := Nat.mod_lt b (show 1024 > 0 by decide)
  have KE := fun W => Lib.hid (te_entry W 3 b (by omega) hb 3 (b : Int) rfl rfl)
  obtain ⟨ee, hee⟩ : ∃ ee, ee = 3 * 1024 + b % 1024 := ⟨_, rfl⟩
  rw [← hee] at KE
  have hel : ee < 18446744073709551616 := by omega
  obtain ⟨v0, v1, v2⟩ := k_ents ee hel
  have hrow : ∀ W : World, SRow (W.alloc (.cells (kC ee) 40)) (some ⟨W.heap.size, 0, none⟩) 3 2 (kV ee) := fun W => by
    refine .inr ⟨W.heap.size, 0, rfl, by simp, fun i hi j hj => ?_⟩
    rw [(Blk.new W (kC ee) 40).cell]
    rcases (show i = 0 ∨ i = 1 ∨ i = 2 by omega) with rfl | rfl | rfl <;> rcases (show j = 0 ∨ j = 1 by omega) with rfl | rfl <;> rfl
  have KM := fun W => Lib.hid (law_memory _ _ 3 3 (kV ee) (hrow W) (fun i hi => kV_wf ee hel i hi 0 (by omega)) (fun i hi => kV_wf ee hel i hi 1 (by omega)) (by omega))
  have hal : ∀ W : World, W.heap.size ≤ (W.alloc (.cells (kC ee) 40)).heap.size ∧ Below W.heap.size W (W.alloc (.cells (kC ee) 40)) := fun W => ⟨by simp, (Below.refl _ _).alloc (Nat.le_refl _) _⟩
  have HAL := Lib.hid hal
  generalize memF (kV ee) 3 = V at *
  have KW := fun B W p r (H : PX (fun k => k < B) W p r 8 V V) => Lib.hid (x_wk _ W p r 8 V V H (by omega) 0 5 3)
  have hw := k_walk3 V b v0 v1 (by rw [v2, hee])
  rw [if_pos e1] at hw
  rw [hw] at KW
  have c1 : bits BinOp.or IntKind.u64 17 8 = 25 := by decide
  have c2 : bits BinOp.and IntKind.u64 (b : Int) 25 = 25 := by
    have := u64_and_nat b 25 hb (by omega)
    rw [e1] at this
    exact this
  clear hw e1
  try simp only [errV] at KW
  have KE := Lib.hid KE; have KM := Lib.hid KM; have KW := Lib.hid KW
  clear hz hee hel v0 v1 v2 hrow hal
  unfold kC at KM HAL
  go_enter Try.func6, Try.ntmps6
  go_wp2_with fail
  refine (tshown w).mono ?_
  rintro e w1 ⟨rfl, b1⟩
  have B1 := Lib.hid b1; clear b1
  go_wp2_with fail
  refine (KE.out w1).out.mono ?_
  rintro e w2 ⟨rfl, rfl⟩
  go_wp2_with fail
  refine (KM.out w1).out.mono ?_
  rintro e w2 ⟨p, r, rfl, m2, b2⟩
  have hw0 := And.intro (B1.out.trans ((HAL.out w1).2.mono B1.out.size)) (Nat.le_trans B1.out.size (HAL.out w1).1)
  have M2 := Lib.hid m2; have B2 := Lib.hid b2; clear m2 b2
  generalize w1.alloc _ = wa at *
  have HW := Lib.hid hw0; clear hw0
  go_wp2_with fail
  refine (KW.out _ w2 p r M2.out).out.mono ?_
  rintro e w3 ⟨rfl, m3, c3⟩
  have B3 := Lib.hid (B2.out.trans (c3.below (B := wa.heap.size) B2.out.size (fun _ h => Nat.le_of_not_lt h))); clear m3 c3
  have FIN := Lib.hid (fun o => HW.out.1.trans ((B3.out.alloc (B3.out.size) o).mono HW.out.2))
  go_wp2_with fail
  go_ret
  exact ⟨rfl, FIN.out _⟩

set_option maxRecDepth 100000 in
set_option maxHeartbeats 1600000 in
theorem kinds_no3 (w : World) (b : Nat) (hb : b < 18446744073709551616) (e1 : b &&& 25 ≠ 25) :
    Calls Try.prog 6 #[.int .u64 b, .int .i64 3] w fun e w' => e = .returned (.bool true) ∧ Below w.heap.size w w' := by
  have hz := Nat.mod_lt b (show 1024 > 0 by decide)
  have KE := fun W => Lib.hid (te_entry W 3 b (by omega) hb 3 (b : Int) rfl rfl)
  obtain ⟨ee, hee⟩ : ∃ ee, ee = 3 * 1024 + b % 1024 := ⟨_, rfl⟩
  rw [← hee] at KE
  have hel : ee < 18446744073709551616 := by omega
  obtain ⟨v0, v1, v2⟩ := k_ents ee hel
  have hrow : ∀ W : World, SRow (W.alloc (.cells (kC ee) 40)) (some ⟨W.heap.size, 0, none⟩) 3 2 (kV ee) := fun W => by
    refine .inr ⟨W.heap.size, 0, rfl, by simp, fun i hi j hj => ?_⟩
    rw [(Blk.new W (kC ee) 40).cell]
    rcases (show i = 0 ∨ i = 1 ∨ i = 2 by omega) with rfl | rfl | rfl <;> rcases (show j = 0 ∨ j = 1 by omega) with rfl | rfl <;> rfl
  have KM := fun W => Lib.hid (law_memory _ _ 3 3 (kV ee) (hrow W) (fun i hi => kV_wf ee hel i hi 0 (by omega)) (fun i hi => kV_wf ee hel i hi 1 (by omega)) (by omega))
  have hal : ∀ W : World, W.heap.size ≤ (W.alloc (.cells (kC ee) 40)).heap.size ∧ Below W.heap.size W (W.alloc (.cells (kC ee) 40)) := fun W => ⟨by simp, (Below.refl _ _).alloc (Nat.le_refl _) _⟩
  have HAL := Lib.hid hal
  generalize memF (kV ee) 3 = V at *
  have KW := fun B W p r (H : PX (fun k => k < B) W p r 8 V V) => Lib.hid (x_wk _ W p r 8 V V H (by omega) 0 5 3)
  have hw := k_walk3 V b v0 v1 (by rw [v2, hee])
  rw [if_neg e1] at hw
  rw [hw] at KW
  have c1 : bits BinOp.or IntKind.u64 17 8 = 25 := by decide
  have c2 : bits BinOp.and IntKind.u64 (b : Int) 25 = ((b &&& 25 : Nat) : Int) := u64_and_nat b 25 hb (by omega)
  generalize b &&& 25 = z at *
  have c3 : ((z : Int) == 25) = false := by simp; omega
  have c4 : ¬ z = 25 := e1
  clear hw e1
  try simp only [errV] at KW
  have KE := Lib.hid KE; have KM := Lib.hid KM; have KW := Lib.hid KW
  clear hz hee hel v0 v1 v2 hrow hal
  unfold kC at KM HAL
  go_enter Try.func6, Try.ntmps6
  go_wp2_with fail
  refine (tshown w).mono ?_
  rintro e w1 ⟨rfl, b1⟩
  have B1 := Lib.hid b1; clear b1
  go_wp2_with fail
  refine (KE.out w1).out.mono ?_
  rintro e w2 ⟨rfl, rfl⟩
  go_wp2_with fail
  refine (KM.out w1).out.mono ?_
  rintro e w2 ⟨p, r, rfl, m2, b2⟩
  have hw0 := And.intro (B1.out.trans ((HAL.out w1).2.mono B1.out.size)) (Nat.le_trans B1.out.size (HAL.out w1).1)
  have M2 := Lib.hid m2; have B2 := Lib.hid b2; clear m2 b2
  generalize w1.alloc _ = wa at *
  have HW := Lib.hid hw0; clear hw0
  go_wp2_with fail
  refine (KW.out _ w2 p r M2.out).out.mono ?_
  rintro e w3 ⟨rfl, m3, c3⟩
  have B3 := Lib.hid (B2.out.trans (c3.below (B := wa.heap.size) B2.out.size (fun _ h => Nat.le_of_not_lt h))); clear m3 c3
  have FIN := Lib.hid (fun o => HW.out.1.trans ((B3.out.alloc (B3.out.size) o).mono HW.out.2))
  go_wp2_with fail
  go_ret
  exact ⟨rfl, FIN.out _⟩

theorem walkKinds_walk (w : World) (a : Int) (w0 : (Lit.int .u64 a).wf = true) (acc : Int) (_w1 : (Lit.int .i64 acc).wf = true) :
    Calls Try.prog 6 #[.int .u64 a, .int .i64 acc] w fun e w' => e = .returned (.bool true) ∧ Below w.heap.size w w' := by
  obtain ⟨b, rfl, hb⟩ := u64_nat' w0
  by_cases h1 : acc < 1
  · exact kinds_low w b hb acc h1
  by_cases h2 : 3 < acc
  · exact kinds_high w b hb acc h2
  rcases (show acc = 1 ∨ acc = 2 ∨ acc = 3 by omega) with rfl | rfl | rfl
  · by_cases e : b &&& 19 = 19
    · exact kinds_yes1 w b hb e
    · exact kinds_no1 w b hb e
  · by_cases e : b &&& 21 = 21
    · exact kinds_yes2 w b hb e
    · exact kinds_no2 w b hb e
  · by_cases e : b &&& 25 = 25
    · exact kinds_yes3 w b hb e
    · exact kinds_no3 w b hb e
end Go.Proofs.Ytodjmfmenfncdaa
