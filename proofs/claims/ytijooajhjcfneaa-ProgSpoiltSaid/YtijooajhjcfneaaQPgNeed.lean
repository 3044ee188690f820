/-
  How many frames a program needs, by contract.
-/
import Derived.Test.YtijooajhjcfneaaQPgDecR
namespace Go.Proofs.Ytijooajhjcfneaa
open Go.RowKit Go.Maps

abbrev TmT : TypeId := 104
/-- the tables that are noted: 1, perhaps, and 0, perhaps -/
def NeedD (D : DataW Unit) (a b : Bool) : Prop := Tidy D ∧ (∀ f : Nat, Maps.has D (.int .i64 (f : Int)) = ((decide (f = 1) && a) || (decide (f = 0) && b))) ∧ Maps.size D = (if a then 1 else 0) + (if b then 1 else 0)
theorem NeedD.none : NeedD (.map []) false false := ⟨tidy_empty, fun f => by simp [Maps.has], rfl⟩
theorem NeedD.one {D : DataW Unit} {a b : Bool} (h : NeedD D a b) (d : DataW Unit) : NeedD (D.put (.int .i64 ((1 : Nat) : Int)) d) true b := by
  obtain ⟨t, hh, hs⟩ := h
  refine ⟨t.put (isKeyInt _) d, fun g => ?_, ?_⟩
  · by_cases e : g = 1
    · subst e
      rw [has_put_same t.isMap (isKeyInt _)]; simp
    · rw [has_put_other (by intro h; cases h; omega), hh g]; simp [e]
  · rw [size_put t, hh 1, hs]
    cases a <;> cases b <;> rfl
theorem NeedD.zero {D : DataW Unit} {a b : Bool} (h : NeedD D a b) (d : DataW Unit) : NeedD (D.put (.int .i64 ((0 : Nat) : Int)) d) a true := by
  obtain ⟨t, hh, hs⟩ := h
  refine ⟨t.put (isKeyInt _) d, fun g => ?_, ?_⟩
  · by_cases e : g = 0
    · subst e
      rw [has_put_same t.isMap (isKeyInt _)]; simp
    · rw [has_put_other (by intro h; cases h; omega), hh g]; simp [e]
  · rw [size_put t, hh 0, hs]
    cases a <;> cases b <;> rfl
theorem NeedD.small {D : DataW Unit} {a b : Bool} (h : NeedD D a b) : Maps.size D < maxLen := by
  rw [h.2.2]
  unfold maxLen
  cases a <;> cases b <;> simp
def NeedM (w0 : World) (a b : Bool) (W : World) : Prop := (∃ D : DataW Unit, W.ownsMap Try.prog InT (plainElem Try.prog 4) w0.heap.size (Maps.size D) D ∧ NeedD D a b) ∧ Chg (fun _ => False) w0 W
theorem NeedM.start (w0 : World) : NeedM w0 false false (w0.alloc (.map #[] 0)) := ⟨⟨.map [], World.ownsMap_made _ _ _ _, NeedD.none⟩, (Chg.refl _ _).alloc _⟩
set_option maxRecDepth 100000 in
set_option maxHeartbeats 1600000 in
theorem p_need (w : World) (n : Nat) (h1 : 1 ≤ n) (h2 : n ≤ 28) :
    Calls Try.prog 32 #[.int .i64 n] w fun e w' => e = .returned (.int .i64 ((n + 12 : Nat) : Int)) ∧ Chg (fun _ => False) w w' := by
  have hmm := @run_makeMap Try.prog
  have M0 := Lib.hid (NeedM.start w)
  have hkey1 : keyOf Try.prog InT (.int .i64 1) = some (.int .i64 1) := keyOf_int_mk Try.underlying3 (WalkArith.wf_i64 (by omega))
  have hkey0 : keyOf Try.prog InT (.int .i64 0) = some (.int .i64 0) := keyOf_int_mk Try.underlying3 (WalkArith.wf_i64 (by omega))
  go_enter Try.func32, Try.ntmps32
  go_wp2_with fail
  go_loopw [7] (fun i wr => ∃ (k : Nat) (W' : World), W' = wr ∧ k ≤ 8 ∧ i = .int .i64 k ∧ Hid (NeedM w (decide (0 < k)) false W')) (fun i _ => 8 - (intOf i).toNat)
  case atStart => exact ⟨0, _, rfl, Nat.zero_le _, rfl, M0⟩
  case round =>
    obtain ⟨k, wr, rfl, hk, rfl, HR⟩ := hrel
    by_cases hlt : k < 8
    · have d1 : decide ((k : Int) < (8 : Int)) = true := decide_eq_true (by omega)
      have q1 : ((63 : Int) - (k : Int)) / 32 = 1 := by omega
      have q2 : ((63 : Int) - (k : Int)).tdiv 32 = 1 := by rw [Int.tdiv_eq_ediv_of_nonneg (by omega)]; omega
      have w1 : wrap64 ((63 : Int) - (k : Int)) = 63 - (k : Int) := by unfold wrap64; omega
      obtain ⟨⟨D, hown, hD⟩, hc⟩ := HR.out
      have hn : Maps.size D < maxLen := NeedD.small hD
      have HD := Lib.hid hD.one
      have HC := Lib.hid hc
      have e9 : decide (0 < k + 1) = true := decide_eq_true (by omega)
      clear hD hc
      go_wp2_with (at_mapUpdate; refine wpList_mapUpdate_own _ rfl _ _ _ TmT rfl InT 4 lawInt Try.underlying104 (plainElem Try.prog 4) w.heap.size (Maps.size D) D rfl hown hn _ _ _ rfl rfl hkey1 (.lit (.bool true)) [] (plainElem_bool Try.underlying4 true) ?_; intro w2 hown2 hgrow2; have N2 := Lib.hid (show NeedM w true false w2 from ⟨⟨_, owns_tight hown2, HD.out _⟩, HC.out.trans' (grown_chg hgrow2) (fun i h => .inr (Nat.le_of_eq h.symm))⟩); clear hgrow2 hown2 hown)
      go_roundw
      case rel => exact ⟨k + 1, _, rfl, by omega, by go_num, by rw [e9]; exact N2⟩
      case measure => simp [intOf]; omega
    · obtain rfl : k = 8 := by omega
      have HR1 := Lib.hid (show NeedM w true false wr from HR.out)
      clear hlt HR
      rw [show ((8 : Nat) : Int) = 8 from rfl]
      go_wp2_with fail
      go_loopw [16] (fun i W => ∃ (k : Nat) (W' : World), W' = W ∧ k ≤ n ∧ i = .int .i64 k ∧ Hid (NeedM w true (decide (0 < k)) W')) (fun i _ => n - (intOf i).toNat)
      case atStart => exact ⟨0, _, rfl, Nat.zero_le _, rfl, HR1⟩
      case round =>
        obtain ⟨k, wj, rfl, hk2, rfl, HJ⟩ := hrel
        by_cases hlt : k < n
        · have d1 : decide ((k : Int) < (n : Int)) = true := decide_eq_true (by omega)
          have q1 : ((1 : Int) + (k : Int)) / 32 = 0 := by omega
          have q2 : ((1 : Int) + (k : Int)).tdiv 32 = 0 := by rw [Int.tdiv_eq_ediv_of_nonneg (by omega)]; omega
          have w1 : wrap64 ((1 : Int) + (k : Int)) = 1 + (k : Int) := by unfold wrap64; omega
          obtain ⟨⟨D, hown, hD⟩, hc⟩ := HJ.out
          have hn : Maps.size D < maxLen := NeedD.small hD
          have HD := Lib.hid hD.zero
          have HC := Lib.hid hc
          have e9 : decide (0 < k + 1) = true := decide_eq_true (by omega)
          clear hD hc
          go_wp2_with (at_mapUpdate; refine wpList_mapUpdate_own _ rfl _ _ _ TmT rfl InT 4 lawInt Try.underlying104 (plainElem Try.prog 4) w.heap.size (Maps.size D) D rfl hown hn _ _ _ rfl rfl hkey0 (.lit (.bool true)) [] (plainElem_bool Try.underlying4 true) ?_; intro w2 hown2 hgrow2; have N2 := Lib.hid (show NeedM w true true w2 from ⟨⟨_, owns_tight hown2, HD.out _⟩, HC.out.trans' (grown_chg hgrow2) (fun i h => .inr (Nat.le_of_eq h.symm))⟩); clear hgrow2 hown2 hown)
          go_roundw
          case rel => exact ⟨k + 1, _, rfl, by omega, by go_num, by rw [e9]; exact N2⟩
          case measure => simp [intOf]; omega
        · obtain rfl : k = n := by omega
          have e9 : decide (0 < k) = true := decide_eq_true (by omega)
          rw [e9] at HJ
          obtain ⟨⟨D, hown, hD⟩, hc⟩ := HJ.out
          have hsz : Maps.size D = 2 := hD.2.2
          have HC := Lib.hid hc
          clear hD hc hlt HJ
          go_wp2_with (at_len; refine wpList_len_own _ rfl _ TmT rfl InT 4 Try.underlying104 (plainElem Try.prog 4) w.heap.size (Maps.size D) D rfl hown ?_)
          go_ret
          exact ⟨congrArg (fun y : Int => Ending.returned (.int .i64 y)) (show (k : Int) + 8 + 2 + 2 = ((k + 12 : Nat) : Int) by omega), HC.out⟩
end Go.Proofs.Ytijooajhjcfneaa
