/-
  May a program be: on both sides.
-/
import Derived.Test.YtijooajhjcfneaaG12
namespace Go.Proofs.Ytijooajhjcfneaa
open Go.RowKit

/-- a program -/
structure Prg where
  entry : Int
  text : ByteArray
  data : ByteArray
  bss : Int
def Prg.val (x : Prg) : Value := .agg #[.int .i64 x.entry, .string x.text, .string x.data, .int .i64 x.bss]
/-- .. that may be -/
def mayP (e : Int) (n d : Nat) (b : Int) : Bool := decide (4 ≤ n ∧ n ≤ 2048 ∧ n % 4 = 0 ∧ 0 ≤ e ∧ e < (n : Int) ∧ e % 4 = 0 ∧ d ≤ 1024 ∧ 0 ≤ b ∧ b ≤ 4096 ∧ 32 + n + d ≤ 2368)
def Prg.may (x : Prg) : Bool := mayP x.entry x.text.size x.data.size x.bss
/-- no longer than any string -/
structure Prg.Small (x : Prg) : Prop where
  t : x.text.size ≤ 9223372036854775807
  d : x.data.size ≤ 9223372036854775807
set_option maxRecDepth 100000 in
set_option maxHeartbeats 1600000 in
theorem p_may_walk (w : World) (e b : Int) (n d : Nat) (text data : ByteArray) (ht : text.size = n) (hd : data.size = d) (hn63 : n ≤ 9223372036854775807) (hd63 : d ≤ 9223372036854775807) (c0 : Bool) (h0 : decide ((4 : Int) ≤ (n : Int)) = c0) (c1 : Bool) (h1 : decide ((n : Int) ≤ (2048 : Int)) = c1) (c2 : Bool) (h2 : ((n : Int) % 4 == 0) = c2) (c3 : Bool) (h3 : decide ((0 : Int) ≤ e) = c3) (c4 : Bool) (h4 : decide (e < (n : Int)) = c4) (c5 : Bool) (h5 : (e.tmod 4 == 0) = c5) (c6 : Bool) (h6 : decide ((d : Int) ≤ (1024 : Int)) = c6) (c7 : Bool) (h7 : decide ((0 : Int) ≤ b) = c7) (c8 : Bool) (h8 : decide (b ≤ (4096 : Int)) = c8) (c9 : Bool) (h9 : decide (32 + (n : Int) + (d : Int) ≤ (2368 : Int)) = c9) :
    Calls Try.prog 8 #[.agg #[.int .i64 e, .string text, .string data, .int .i64 b]] w fun r w' => r = .returned (.bool (c0 && c1 && c2 && c3 && c4 && c5 && c6 && c7 && c8 && c9)) ∧ Chg (fun _ => False) w w' := by
  have hx : (n : Int).tmod 4 = (n : Int) % 4 := Int.tmod_eq_emod_of_nonneg (by omega)
  cases c0 with
  | false =>
    go_enter Try.func8, Try.ntmps8
    go_wp2_with fail
    go_ret
    exact ⟨rfl, (Chg.refl _ _).alloc _⟩
  | true =>
    cases c1 with
    | false =>
      go_enter Try.func8, Try.ntmps8
      go_wp2_with fail
      go_ret
      exact ⟨rfl, (Chg.refl _ _).alloc _⟩
    | true =>
      cases c2 with
      | false =>
        go_enter Try.func8, Try.ntmps8
        go_wp2_with fail
        go_ret
        exact ⟨rfl, (Chg.refl _ _).alloc _⟩
      | true =>
        cases c3 with
        | false =>
          go_enter Try.func8, Try.ntmps8
          go_wp2_with fail
          go_ret
          exact ⟨rfl, (Chg.refl _ _).alloc _⟩
        | true =>
          cases c4 with
          | false =>
            go_enter Try.func8, Try.ntmps8
            go_wp2_with fail
            go_ret
            exact ⟨rfl, (Chg.refl _ _).alloc _⟩
          | true =>
            cases c5 with
            | false =>
              go_enter Try.func8, Try.ntmps8
              go_wp2_with fail
              go_ret
              exact ⟨rfl, (Chg.refl _ _).alloc _⟩
            | true =>
              cases c6 with
              | false =>
                go_enter Try.func8, Try.ntmps8
                go_wp2_with fail
                go_ret
                exact ⟨rfl, (Chg.refl _ _).alloc _⟩
              | true =>
                cases c7 with
                | false =>
                  go_enter Try.func8, Try.ntmps8
                  go_wp2_with fail
                  go_ret
                  exact ⟨rfl, (Chg.refl _ _).alloc _⟩
                | true =>
                  cases c8 with
                  | false =>
                    go_enter Try.func8, Try.ntmps8
                    go_wp2_with fail
                    go_ret
                    exact ⟨rfl, (Chg.refl _ _).alloc _⟩
                  | true =>
                    cases c9 with
                    | false =>
                      have k1 : (n : Int) ≤ 2048 := of_decide_eq_true h1
                      have k2 : (d : Int) ≤ 1024 := of_decide_eq_true h6
                      have k3 : wrap64 (32 + (n : Int)) = 32 + (n : Int) := by unfold wrap64; omega
                      have k4 : wrap64 (32 + (n : Int) + (d : Int)) = 32 + (n : Int) + (d : Int) := by unfold wrap64; omega
                      go_enter Try.func8, Try.ntmps8
                      go_wp2_with fail
                      go_ret
                      exact ⟨rfl, (Chg.refl _ _).alloc _⟩
                    | true =>
                      have k1 : (n : Int) ≤ 2048 := of_decide_eq_true h1
                      have k2 : (d : Int) ≤ 1024 := of_decide_eq_true h6
                      have k3 : wrap64 (32 + (n : Int)) = 32 + (n : Int) := by unfold wrap64; omega
                      have k4 : wrap64 (32 + (n : Int) + (d : Int)) = 32 + (n : Int) + (d : Int) := by unfold wrap64; omega
                      go_enter Try.func8, Try.ntmps8
                      go_wp2_with fail
                      go_ret
                      exact ⟨rfl, (Chg.refl _ _).alloc _⟩
set_option maxRecDepth 100000 in
set_option maxHeartbeats 1600000 in
theorem q_may_walk (w : World) (e b : Int) (n d : Nat) (text data : ByteArray) (ht : text.size = n) (hd : data.size = d) (hn63 : n ≤ 9223372036854775807) (hd63 : d ≤ 9223372036854775807) (c0 : Bool) (h0 : decide ((4 : Int) ≤ (n : Int)) = c0) (c1 : Bool) (h1 : decide ((n : Int) ≤ (2048 : Int)) = c1) (c2 : Bool) (h2 : ((n : Int) % 4 == 0) = c2) (c3 : Bool) (h3 : decide ((0 : Int) ≤ e) = c3) (c4 : Bool) (h4 : (e.tmod 4 == 0) = c4) (c5 : Bool) (h5 : decide (e < (n : Int)) = c5) (c6 : Bool) (h6 : decide ((d : Int) ≤ (1024 : Int)) = c6) (c7 : Bool) (h7 : decide ((0 : Int) ≤ b) = c7) (c8 : Bool) (h8 : decide (b ≤ (4096 : Int)) = c8) (c9 : Bool) (h9 : decide (32 + (n : Int) + (d : Int) ≤ (2368 : Int)) = c9) :
    Calls Try.prog 15 #[.agg #[.int .i64 e, .string text, .string data, .int .i64 b]] w fun r w' => r = .returned (.bool (c0 && c1 && c2 && c3 && c4 && c5 && c6 && c7 && c8 && c9)) ∧ Chg (fun _ => False) w w' := by
  have hx : (n : Int).tmod 4 = (n : Int) % 4 := Int.tmod_eq_emod_of_nonneg (by omega)
  cases c0 with
  | false =>
    go_enter Try.func15, Try.ntmps15
    go_wp2_with fail
    go_ret
    exact ⟨rfl, (Chg.refl _ _).alloc _⟩
  | true =>
    cases c1 with
    | false =>
      go_enter Try.func15, Try.ntmps15
      go_wp2_with fail
      go_ret
      exact ⟨rfl, (Chg.refl _ _).alloc _⟩
    | true =>
      cases c2 with
      | false =>
        go_enter Try.func15, Try.ntmps15
        go_wp2_with fail
        go_ret
        exact ⟨rfl, (Chg.refl _ _).alloc _⟩
      | true =>
        cases c3 with
        | false =>
          go_enter Try.func15, Try.ntmps15
          go_wp2_with fail
          go_ret
          exact ⟨rfl, (Chg.refl _ _).alloc _⟩
        | true =>
          cases c4 with
          | false =>
            go_enter Try.func15, Try.ntmps15
            go_wp2_with fail
            go_ret
            exact ⟨rfl, (Chg.refl _ _).alloc _⟩
          | true =>
            cases c5 with
            | false =>
              go_enter Try.func15, Try.ntmps15
              go_wp2_with fail
              go_ret
              exact ⟨rfl, (Chg.refl _ _).alloc _⟩
            | true =>
              cases c6 with
              | false =>
                go_enter Try.func15, Try.ntmps15
                go_wp2_with fail
                go_ret
                exact ⟨rfl, (Chg.refl _ _).alloc _⟩
              | true =>
                cases c7 with
                | false =>
                  go_enter Try.func15, Try.ntmps15
                  go_wp2_with fail
                  go_ret
                  exact ⟨rfl, (Chg.refl _ _).alloc _⟩
                | true =>
                  cases c8 with
                  | false =>
                    go_enter Try.func15, Try.ntmps15
                    go_wp2_with fail
                    go_ret
                    exact ⟨rfl, (Chg.refl _ _).alloc _⟩
                  | true =>
                    cases c9 with
                    | false =>
                      have k1 : (n : Int) ≤ 2048 := of_decide_eq_true h1
                      have k2 : (d : Int) ≤ 1024 := of_decide_eq_true h6
                      have k3 : wrap64 (32 + (n : Int)) = 32 + (n : Int) := by unfold wrap64; omega
                      have k4 : wrap64 (32 + (n : Int) + (d : Int)) = 32 + (n : Int) + (d : Int) := by unfold wrap64; omega
                      go_enter Try.func15, Try.ntmps15
                      go_wp2_with fail
                      go_ret
                      exact ⟨rfl, (Chg.refl _ _).alloc _⟩
                    | true =>
                      have k1 : (n : Int) ≤ 2048 := of_decide_eq_true h1
                      have k2 : (d : Int) ≤ 1024 := of_decide_eq_true h6
                      have k3 : wrap64 (32 + (n : Int)) = 32 + (n : Int) := by unfold wrap64; omega
                      have k4 : wrap64 (32 + (n : Int) + (d : Int)) = 32 + (n : Int) + (d : Int) := by unfold wrap64; omega
                      go_enter Try.func15, Try.ntmps15
                      go_wp2_with fail
                      go_ret
                      exact ⟨rfl, (Chg.refl _ _).alloc _⟩
theorem may_eq1 (e : Int) (n d : Nat) (b : Int) : (decide ((4 : Int) ≤ (n : Int)) && decide ((n : Int) ≤ (2048 : Int)) && ((n : Int) % 4 == 0) && decide ((0 : Int) ≤ e) && decide (e < (n : Int)) && (e.tmod 4 == 0) && decide ((d : Int) ≤ (1024 : Int)) && decide ((0 : Int) ≤ b) && decide (b ≤ (4096 : Int)) && decide (32 + (n : Int) + (d : Int) ≤ (2368 : Int))) = mayP e n d b := by
  unfold mayP
  apply Bool.eq_iff_iff.2
  simp only [Bool.and_eq_true, decide_eq_true_eq, beq_iff_eq]
  by_cases h : 0 ≤ e
  · rw [Int.tmod_eq_emod_of_nonneg h]; omega
  · constructor
    · intro k; omega
    · intro k; omega
theorem may_eq2 (e : Int) (n d : Nat) (b : Int) : (decide ((4 : Int) ≤ (n : Int)) && decide ((n : Int) ≤ (2048 : Int)) && ((n : Int) % 4 == 0) && decide ((0 : Int) ≤ e) && (e.tmod 4 == 0) && decide (e < (n : Int)) && decide ((d : Int) ≤ (1024 : Int)) && decide ((0 : Int) ≤ b) && decide (b ≤ (4096 : Int)) && decide (32 + (n : Int) + (d : Int) ≤ (2368 : Int))) = mayP e n d b := by
  unfold mayP
  apply Bool.eq_iff_iff.2
  simp only [Bool.and_eq_true, decide_eq_true_eq, beq_iff_eq]
  by_cases h : 0 ≤ e
  · rw [Int.tmod_eq_emod_of_nonneg h]; omega
  · constructor
    · intro k; omega
    · intro k; omega

theorem p_may (w : World) (x : Prg) (h : x.Small) :
    Calls Try.prog 8 #[x.val] w fun r w' => r = .returned (.bool x.may) ∧ Chg (fun _ => False) w w' := by
  obtain ⟨e, text, data, b⟩ := x
  refine (p_may_walk w e b text.size data.size text data rfl rfl h.t h.d _ rfl _ rfl _ rfl _ rfl _ rfl _ rfl _ rfl _ rfl _ rfl _ rfl).mono fun r w' k => ⟨k.1.trans ?_, k.2⟩
  congr 2
  exact may_eq1 e text.size data.size b
theorem q_may (w : World) (x : Prg) (h : x.Small) :
    Calls Try.prog 15 #[x.val] w fun r w' => r = .returned (.bool x.may) ∧ Chg (fun _ => False) w w' := by
  obtain ⟨e, text, data, b⟩ := x
  refine (q_may_walk w e b text.size data.size text data rfl rfl h.t h.d _ rfl _ rfl _ rfl _ rfl _ rfl _ rfl _ rfl _ rfl _ rfl _ rfl).mono fun r w' k => ⟨k.1.trans ?_, k.2⟩
  congr 2
  exact may_eq2 e text.size data.size b
end Go.Proofs.Ytijooajhjcfneaa
