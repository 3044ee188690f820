/-
  word.divides and word.wide by their contracts, at each opcode.
-/
import Derived.Test.YtcpmjgjefhpgkaaWdHigh
import Derived.Test.YtcpmjgjefhpgkaaWordQ
namespace Go.Proofs.Ytcpmjgjefhpgkaa
open Go.RowKit

def DivPost (w : World) (q r : Int) (e : Ending) (w' : World) : Prop := e = .returned (.tuple #[.int .i64 q, .int .i64 r]) ∧ ∃ n, w' = w.drewN n

theorem word_divides (w : World) (a b : Nat) (ha : a < 18446744073709551616) (hb : b < 18446744073709551616) :
    Calls Try.prog 33 #[.int .i64 (sg a), .int .i64 (sg b)] w (DivPost w (wrap64 (wDiv a b)) (wRem a b)) := by
  have ra := sg_range a ha
  by_cases h0 : b = 0
  · have e1 : wrap64 (wDiv a b) = -1 := by simp [wDiv, h0, wrap64]
    have e2 : wRem a b = sg a := by simp [wRem, h0]
    have e3 : sg b = 0 := by simp [sg, h0]
    rw [e1, e2, e3]
    clear ra ha hb e1 e2 e3
    go_enter Try.func33, Try.ntmps33
    go_wp2_with fail
    go_ret2
    exact ⟨rfl, 0, rfl⟩
  · have rb : sg b ≠ 0 := by unfold sg; split <;> omega
    by_cases h1 : sg b = -1
    · have e1 : wDiv a b = -(sg a) := by simp [wDiv, h0, h1, Int.tdiv_neg]
      have e2 : wRem a b = 0 := by simp [wRem, h0, h1, Int.tmod_neg]
      rw [e1, e2, h1]
      clear ra ha hb e1 e2 h1 rb
      generalize sg a = x
      go_enter Try.func33, Try.ntmps33
      go_wp2_with fail
      go_ret2
      exact ⟨rfl, 0, rfl⟩
    · have e1 : wDiv a b = (sg a).tdiv (sg b) := by simp [wDiv, h0]
      have e2 : wRem a b = (sg a).tmod (sg b) := by simp [wRem, h0]
      have q := tdiv_range (sg a) (sg b) ra.1 ra.2 h1
      rw [e1, e2]
      have e5 : wrap64 ((sg a).tdiv (sg b)) = (sg a).tdiv (sg b) := by unfold wrap64; omega
      have b0 : (sg b == 0) = false := by simpa using rb
      have b1 : (sg b == -1) = false := by simpa using h1
      have b2 : ¬ sg b = 0 := rb
      clear ra ha hb e1 e2 h1 q rb
      generalize sg a = x at *
      generalize sg b = y at *
      go_enter Try.func33, Try.ntmps33
      go_wp2_with fail
      go_quiet (fail)
      go_wp2_with fail
      go_ret2
      exact ⟨rfl, _, rfl⟩

theorem wrap_zero : IntKind.u64.wrap 0 = 0 := by rw [u64_wrap]; rfl

/-- what 'wide' comes to -/
def WidePost (w : World) (r : Nat) (e : Ending) (w' : World) : Prop := e = .returned (.int .u64 (r : Int)) ∧ ∃ n, w' = w.drewN n
theorem wide_mk {w : World} {r : Nat} {x : Int} {n : Nat} (h : x = (r : Int)) : WidePost w r (.returned (.int .u64 x)) (w.drewN n) := ⟨by rw [h], n, rfl⟩
theorem wide_mk0 {w : World} {r : Nat} {x : Int} (h : x = (r : Int)) : WidePost w r (.returned (.int .u64 x)) w := ⟨by rw [h], 0, rfl⟩

set_option maxRecDepth 100000 in
set_option maxHeartbeats 800000 in
theorem wide_35 (w : World) (a b : Nat) (ha : a < 18446744073709551616) (hb : b < 18446744073709551616) :
    Calls Try.prog 28 #[.int .i64 35, .int .u64 a, .int .u64 b] w (WidePost w (wWide 35 a b)) := by
  have F := Lib.hid (show IntKind.u64.wrap ((a : Int) + b) = ((wWide 35 a b : Nat) : Int) from u64_un _)
  clear ha hb
  go_enter Try.func28, Try.ntmps28
  go_wp2_with fail
  go_ret
  exact wide_mk0 (F.out)

set_option maxRecDepth 100000 in
set_option maxHeartbeats 800000 in
theorem wide_36 (w : World) (a b : Nat) (ha : a < 18446744073709551616) (hb : b < 18446744073709551616) :
    Calls Try.prog 28 #[.int .i64 36, .int .u64 a, .int .u64 b] w (WidePost w (wWide 36 a b)) := by
  have F := Lib.hid (show IntKind.u64.wrap ((a : Int) - b) = ((wWide 36 a b : Nat) : Int) from u64_un _)
  clear ha hb
  go_enter Try.func28, Try.ntmps28
  go_wp2_with fail
  go_ret
  exact wide_mk0 (F.out)

set_option maxRecDepth 100000 in
set_option maxHeartbeats 800000 in
theorem wide_50 (w : World) (a b : Nat) (ha : a < 18446744073709551616) (hb : b < 18446744073709551616) :
    Calls Try.prog 28 #[.int .i64 50, .int .u64 a, .int .u64 b] w (WidePost w (wWide 50 a b)) := by
  have F := Lib.hid (show IntKind.u64.wrap ((a : Int) * b) = ((wWide 50 a b : Nat) : Int) from u64_un _)
  clear ha hb
  go_enter Try.func28, Try.ntmps28
  go_wp2_with fail
  go_ret
  exact wide_mk0 (F.out)

set_option maxRecDepth 100000 in
set_option maxHeartbeats 800000 in
theorem wide_40 (w : World) (a b : Nat) (ha : a < 18446744073709551616) (hb : b < 18446744073709551616) :
    Calls Try.prog 28 #[.int .i64 40, .int .u64 a, .int .u64 b] w (WidePost w (wWide 40 a b)) := by
  have F := Lib.hid (show bits BinOp.xor IntKind.u64 (a : Int) b = ((wWide 40 a b : Nat) : Int) from u64_xor_nat a b ha hb)
  clear ha hb
  go_enter Try.func28, Try.ntmps28
  go_wp2_with fail
  go_ret
  exact wide_mk0 (F.out)

set_option maxRecDepth 100000 in
set_option maxHeartbeats 800000 in
theorem wide_43 (w : World) (a b : Nat) (ha : a < 18446744073709551616) (hb : b < 18446744073709551616) :
    Calls Try.prog 28 #[.int .i64 43, .int .u64 a, .int .u64 b] w (WidePost w (wWide 43 a b)) := by
  have F := Lib.hid (show bits BinOp.or IntKind.u64 (a : Int) b = ((wWide 43 a b : Nat) : Int) from u64_or_nat a b ha hb)
  clear ha hb
  go_enter Try.func28, Try.ntmps28
  go_wp2_with fail
  go_ret
  exact wide_mk0 (F.out)

set_option maxRecDepth 100000 in
set_option maxHeartbeats 800000 in
theorem wide_44 (w : World) (a b : Nat) (ha : a < 18446744073709551616) (hb : b < 18446744073709551616) :
    Calls Try.prog 28 #[.int .i64 44, .int .u64 a, .int .u64 b] w (WidePost w (wWide 44 a b)) := by
  have F := Lib.hid (show bits BinOp.and IntKind.u64 (a : Int) b = ((wWide 44 a b : Nat) : Int) from u64_and_nat a b ha hb)
  clear ha hb
  go_enter Try.func28, Try.ntmps28
  go_wp2_with fail
  go_ret
  exact wide_mk0 (F.out)

set_option maxRecDepth 100000 in
set_option maxHeartbeats 800000 in
theorem wide_37 (w : World) (a b : Nat) (ha : a < 18446744073709551616) (hb : b < 18446744073709551616) :
    Calls Try.prog 28 #[.int .i64 37, .int .u64 a, .int .u64 b] w (WidePost w (wWide 37 a b)) := by
  have hm := mask63 b hb
  have hs : b % 64 < 64 := Nat.mod_lt _ (by omega)
  have F := Lib.hid (show IntKind.u64.wrap ((a : Int) * 2 ^ (b % 64)) = ((wWide 37 a b : Nat) : Int) from u64_un _)
  generalize wWide 37 a b = g at *
  generalize b % 64 = s at *
  clear ha hb
  go_enter Try.func28, Try.ntmps28
  go_wp2_with fail
  go_ret
  exact wide_mk0 (F.out)

set_option maxRecDepth 100000 in
set_option maxHeartbeats 800000 in
theorem wide_41 (w : World) (a b : Nat) (ha : a < 18446744073709551616) (hb : b < 18446744073709551616) :
    Calls Try.prog 28 #[.int .i64 41, .int .u64 a, .int .u64 b] w (WidePost w (wWide 41 a b)) := by
  have hm := mask63 b hb
  have hs : b % 64 < 64 := Nat.mod_lt _ (by omega)
  have F := Lib.hid (show (a : Int) / 2 ^ (b % 64) = ((wWide 41 a b : Nat) : Int) from by simp [wWide])
  generalize wWide 41 a b = g at *
  generalize b % 64 = s at *
  clear ha hb
  go_enter Try.func28, Try.ntmps28
  go_wp2_with fail
  go_ret
  exact wide_mk0 (F.out)

set_option maxRecDepth 100000 in
set_option maxHeartbeats 800000 in
theorem wide_42 (w : World) (a b : Nat) (ha : a < 18446744073709551616) (hb : b < 18446744073709551616) :
    Calls Try.prog 28 #[.int .i64 42, .int .u64 a, .int .u64 b] w (WidePost w (wWide 42 a b)) := by
  have hm := mask63 b hb
  have hs : b % 64 < 64 := Nat.mod_lt _ (by omega)
  have hw := wrap64_sg a ha
  have F := Lib.hid (show IntKind.u64.wrap (sg a / 2 ^ (b % 64)) = ((wWide 42 a b : Nat) : Int) from u64_un _)
  generalize wWide 42 a b = g at *
  have hr := sg_range a ha
  generalize sg a = x at *
  generalize b % 64 = s at *
  clear ha hb
  go_enter Try.func28, Try.ntmps28
  go_wp2_with fail
  go_ret
  exact wide_mk0 (F.out)

set_option maxRecDepth 100000 in
set_option maxHeartbeats 800000 in
theorem wide_38 (w : World) (a b : Nat) (ha : a < 18446744073709551616) (hb : b < 18446744073709551616) :
    Calls Try.prog 28 #[.int .i64 38, .int .u64 a, .int .u64 b] w (WidePost w (wWide 38 a b)) := by
  have hw := wrap64_sg a ha
  have hw2 := wrap64_sg b hb
  have F : ((if decide (sg a < sg b) then 1 else 0 : Nat) : Int) = ((wWide 38 a b : Nat) : Int) := by simp [wWide]
  have HF := Lib.hid F; clear F
  generalize wWide 38 a b = g at *
  generalize sg a = x at *
  generalize sg b = y at *
  obtain ⟨c, hc⟩ : ∃ c, c = decide (x < y) := ⟨_, rfl⟩
  rw [← hc] at HF
  have hc' := hc.symm
  clear ha hb hc
  cases c
  all_goals
    go_enter Try.func28, Try.ntmps28
    go_wp2_with fail
    refine (word_truth w _).mono ?_
    rintro e w' ⟨rfl, rfl⟩
    go_wp2_with fail
    go_ret
    exact wide_mk0 (by have h := HF.out; simpa using h)

set_option maxRecDepth 100000 in
set_option maxHeartbeats 800000 in
theorem wide_39 (w : World) (a b : Nat) (ha : a < 18446744073709551616) (hb : b < 18446744073709551616) :
    Calls Try.prog 28 #[.int .i64 39, .int .u64 a, .int .u64 b] w (WidePost w (wWide 39 a b)) := by
  have F : ((if decide (a < b) then 1 else 0 : Nat) : Int) = ((wWide 39 a b : Nat) : Int) := by simp [wWide]
  have HF := Lib.hid F; clear F
  generalize wWide 39 a b = g at *
  obtain ⟨c, hc⟩ : ∃ c, c = decide (a < b) := ⟨_, rfl⟩
  rw [← hc] at HF
  have hc' := hc.symm
  have hc2 : decide ((a : Int) < (b : Int)) = c := by rw [hc]; simp
  clear ha hb hc
  cases c
  all_goals
    go_enter Try.func28, Try.ntmps28
    go_wp2_with fail
    refine (word_truth w _).mono ?_
    rintro e w' ⟨rfl, rfl⟩
    go_wp2_with fail
    go_ret
    exact wide_mk0 (by have h := HF.out; simpa using h)

set_option maxRecDepth 100000 in
set_option maxHeartbeats 800000 in
theorem wide_53 (w : World) (a b : Nat) (ha : a < 18446744073709551616) (hb : b < 18446744073709551616) :
    Calls Try.prog 28 #[.int .i64 53, .int .u64 a, .int .u64 b] w (WidePost w (wWide 53 a b)) := by
  have K := Lib.hid (word_high w a b ha hb)
  have F := Lib.hid (show ((a * b / 18446744073709551616 : Nat) : Int) = ((wWide 53 a b : Nat) : Int) from rfl)
  generalize wWide 53 a b = g at *
  generalize a * b / 18446744073709551616 = q at *
  clear ha hb
  go_enter Try.func28, Try.ntmps28
  go_wp2_with fail
  refine K.out.mono ?_
  rintro e w' ⟨rfl, rfl⟩
  go_wp2_with fail
  go_ret
  exact wide_mk0 (F.out)

set_option maxRecDepth 100000 in
set_option maxHeartbeats 800000 in
theorem wide_51 (w : World) (a b : Nat) (ha : a < 18446744073709551616) (hb : b < 18446744073709551616) :
    Calls Try.prog 28 #[.int .i64 51, .int .u64 a, .int .u64 b] w (WidePost w (wWide 51 a b)) := by
  have K := Lib.hid (word_high w a b ha hb)
  have hw := wrap64_sg a ha
  have hw2 := wrap64_sg b hb
  have qlt : a * b / 18446744073709551616 < 18446744073709551616 := by
    apply Nat.div_lt_of_lt_mul
    exact Nat.mul_lt_mul'' ha hb
  have F : ∀ (ta tb : Nat), ta = (if sg a < 0 then 1 else 0) → tb = (if sg b < 0 then 1 else 0) → IntKind.u64.wrap (IntKind.u64.wrap (((a * b / 18446744073709551616 : Nat) : Int) - IntKind.u64.wrap ((ta : Int) * b)) - IntKind.u64.wrap ((tb : Int) * a)) = ((wWide 51 a b : Nat) : Int) := by
    intro ta tb h1 h2
    show _ = ((un _ : Nat) : Int)
    rw [← u64_un, u64_wrap, u64_wrap, u64_wrap, u64_wrap, u64_wrap, h1, h2]
    generalize a * b / 18446744073709551616 = q at *
    split <;> split <;> simp <;> omega
  have HF := Lib.hid F; clear F
  generalize wWide 51 a b = g at *
  generalize a * b / 18446744073709551616 = q at *
  generalize sg a = x at *
  generalize sg b = y at *
  have A1 := Lib.hid ha; have B1 := Lib.hid hb
  by_cases h1 : x < 0
  · have d1 : decide (x < 0) = true := by simpa using h1
    by_cases h2 : y < 0
    · have d2 : decide (y < 0) = true := by simpa using h2
      have G := Lib.hid (HF.out 1 1 (by simp [h1]) (by simp [h2]))
      clear HF h1 h2 ha hb qlt
      go_enter Try.func28, Try.ntmps28
      go_wp2_with fail
      refine K.out.mono ?_
      rintro e w' ⟨rfl, rfl⟩
      go_wp2_with fail
      refine (word_truth _ _).mono ?_
      rintro e w' ⟨rfl, rfl⟩
      go_wp2_with fail
      refine (word_truth _ _).mono ?_
      rintro e w' ⟨rfl, rfl⟩
      go_wp2_with fail
      go_ret
      exact wide_mk0 (by have h := G.out; simpa [wrap_zero] using h)
    · have d2 : decide (y < 0) = false := by simpa using h2
      have G := Lib.hid (HF.out 1 0 (by simp [h1]) (by simp [h2]))
      clear HF h1 h2 ha hb qlt
      go_enter Try.func28, Try.ntmps28
      go_wp2_with fail
      refine K.out.mono ?_
      rintro e w' ⟨rfl, rfl⟩
      go_wp2_with fail
      refine (word_truth _ _).mono ?_
      rintro e w' ⟨rfl, rfl⟩
      go_wp2_with fail
      refine (word_truth _ _).mono ?_
      rintro e w' ⟨rfl, rfl⟩
      go_wp2_with fail
      go_ret
      exact wide_mk0 (by have h := G.out; simpa [wrap_zero] using h)
  · have d1 : decide (x < 0) = false := by simpa using h1
    by_cases h2 : y < 0
    · have d2 : decide (y < 0) = true := by simpa using h2
      have G := Lib.hid (HF.out 0 1 (by simp [h1]) (by simp [h2]))
      clear HF h1 h2 ha hb qlt
      go_enter Try.func28, Try.ntmps28
      go_wp2_with fail
      refine K.out.mono ?_
      rintro e w' ⟨rfl, rfl⟩
      go_wp2_with fail
      refine (word_truth _ _).mono ?_
      rintro e w' ⟨rfl, rfl⟩
      go_wp2_with fail
      refine (word_truth _ _).mono ?_
      rintro e w' ⟨rfl, rfl⟩
      go_wp2_with fail
      go_ret
      exact wide_mk0 (by have h := G.out; simpa [wrap_zero] using h)
    · have d2 : decide (y < 0) = false := by simpa using h2
      have G := Lib.hid (HF.out 0 0 (by simp [h1]) (by simp [h2]))
      clear HF h1 h2 ha hb qlt
      go_enter Try.func28, Try.ntmps28
      go_wp2_with fail
      refine K.out.mono ?_
      rintro e w' ⟨rfl, rfl⟩
      go_wp2_with fail
      refine (word_truth _ _).mono ?_
      rintro e w' ⟨rfl, rfl⟩
      go_wp2_with fail
      refine (word_truth _ _).mono ?_
      rintro e w' ⟨rfl, rfl⟩
      go_wp2_with fail
      go_ret
      exact wide_mk0 (by have h := G.out; simpa [wrap_zero] using h)

set_option maxRecDepth 100000 in
set_option maxHeartbeats 800000 in
theorem wide_52 (w : World) (a b : Nat) (ha : a < 18446744073709551616) (hb : b < 18446744073709551616) :
    Calls Try.prog 28 #[.int .i64 52, .int .u64 a, .int .u64 b] w (WidePost w (wWide 52 a b)) := by
  have K := Lib.hid (word_high w a b ha hb)
  have hw := wrap64_sg a ha
  have qlt : a * b / 18446744073709551616 < 18446744073709551616 := by
    apply Nat.div_lt_of_lt_mul
    exact Nat.mul_lt_mul'' ha hb
  have F : ∀ (ta : Nat), ta = (if sg a < 0 then 1 else 0) → IntKind.u64.wrap (((a * b / 18446744073709551616 : Nat) : Int) - IntKind.u64.wrap ((ta : Int) * b)) = ((wWide 52 a b : Nat) : Int) := by
    intro ta h1
    show _ = ((un _ : Nat) : Int)
    rw [← u64_un, u64_wrap, u64_wrap, u64_wrap, h1]
    generalize a * b / 18446744073709551616 = q at *
    split <;> simp <;> omega
  have HF := Lib.hid F; clear F
  generalize wWide 52 a b = g at *
  generalize a * b / 18446744073709551616 = q at *
  generalize sg a = x at *
  by_cases h1 : x < 0
  · have d1 : decide (x < 0) = true := by simpa using h1
    have G := Lib.hid (HF.out 1 (by simp [h1]))
    clear HF h1 ha hb qlt
    go_enter Try.func28, Try.ntmps28
    go_wp2_with fail
    refine K.out.mono ?_
    rintro e w' ⟨rfl, rfl⟩
    go_wp2_with fail
    refine (word_truth _ _).mono ?_
    rintro e w' ⟨rfl, rfl⟩
    go_wp2_with fail
    go_ret
    exact wide_mk0 (by have h := G.out; simpa [wrap_zero] using h)
  · have d1 : decide (x < 0) = false := by simpa using h1
    have G := Lib.hid (HF.out 0 (by simp [h1]))
    clear HF h1 ha hb qlt
    go_enter Try.func28, Try.ntmps28
    go_wp2_with fail
    refine K.out.mono ?_
    rintro e w' ⟨rfl, rfl⟩
    go_wp2_with fail
    refine (word_truth _ _).mono ?_
    rintro e w' ⟨rfl, rfl⟩
    go_wp2_with fail
    go_ret
    exact wide_mk0 (by have h := G.out; simpa [wrap_zero] using h)

set_option maxRecDepth 100000 in
set_option maxHeartbeats 800000 in
theorem wide_54 (w : World) (a b : Nat) (ha : a < 18446744073709551616) (hb : b < 18446744073709551616) :
    Calls Try.prog 28 #[.int .i64 54, .int .u64 a, .int .u64 b] w (WidePost w (wWide 54 a b)) := by
  have K := Lib.hid (word_divides w a b ha hb)
  have hw := wrap64_sg a ha
  have hw2 := wrap64_sg b hb
  have F : IntKind.u64.wrap (wrap64 (wDiv a b)) = ((wWide 54 a b : Nat) : Int) := by
    show _ = ((un _ : Nat) : Int)
    rw [← u64_un, u64_wrap, u64_wrap]
    unfold wrap64
    omega
  have HF := Lib.hid F; clear F
  generalize wWide 54 a b = g at *
  generalize wrap64 (wDiv a b) = q at *
  generalize wRem a b = r at *
  generalize sg a = x at *
  generalize sg b = y at *
  clear ha hb
  go_enter Try.func28, Try.ntmps28
  go_wp2_with fail
  refine K.out.mono ?_
  rintro e w' ⟨rfl, n, rfl⟩
  go_wp2_with fail
  go_ret
  exact wide_mk HF.out

set_option maxRecDepth 100000 in
set_option maxHeartbeats 800000 in
theorem wide_56 (w : World) (a b : Nat) (ha : a < 18446744073709551616) (hb : b < 18446744073709551616) :
    Calls Try.prog 28 #[.int .i64 56, .int .u64 a, .int .u64 b] w (WidePost w (wWide 56 a b)) := by
  have K := Lib.hid (word_divides w a b ha hb)
  have hw := wrap64_sg a ha
  have hw2 := wrap64_sg b hb
  have F : IntKind.u64.wrap (wRem a b) = ((wWide 56 a b : Nat) : Int) := by
    show _ = ((un _ : Nat) : Int)
    exact u64_un _
  have HF := Lib.hid F; clear F
  generalize wWide 56 a b = g at *
  generalize wrap64 (wDiv a b) = q at *
  generalize wRem a b = r at *
  generalize sg a = x at *
  generalize sg b = y at *
  clear ha hb
  go_enter Try.func28, Try.ntmps28
  go_wp2_with fail
  refine K.out.mono ?_
  rintro e w' ⟨rfl, n, rfl⟩
  go_wp2_with fail
  go_ret
  exact wide_mk HF.out

set_option maxRecDepth 100000 in
set_option maxHeartbeats 800000 in
theorem wide_55 (w : World) (a b : Nat) (ha : a < 18446744073709551616) (hb : b < 18446744073709551616) :
    Calls Try.prog 28 #[.int .i64 55, .int .u64 a, .int .u64 b] w (WidePost w (wWide 55 a b)) := by
  by_cases h0 : b = 0
  · subst h0
    have e : wWide 55 a 0 = 18446744073709551615 := by simp [wWide]
    rw [e]
    clear ha hb e
    go_enter Try.func28, Try.ntmps28
    go_wp2_with fail
    refine (word_plainly0 w a).mono ?_
    rintro e w' ⟨rfl, n, rfl⟩
    go_wp2_with fail
    go_ret
    exact wide_mk rfl
  · have K := Lib.hid (word_plainly w a b ha (by omega))
    have e : wWide 55 a b = a / b := by simp [wWide, h0]
    rw [e]
    clear ha hb e h0
    generalize a / b = q at *
    generalize a % b = r at *
    go_enter Try.func28, Try.ntmps28
    go_wp2_with fail
    refine K.out.mono ?_
    rintro e w' ⟨rfl, n, rfl⟩
    go_wp2_with fail
    go_ret
    exact wide_mk rfl

set_option maxRecDepth 100000 in
set_option maxHeartbeats 800000 in
theorem wide_57 (w : World) (a b : Nat) (ha : a < 18446744073709551616) (hb : b < 18446744073709551616) :
    Calls Try.prog 28 #[.int .i64 57, .int .u64 a, .int .u64 b] w (WidePost w (wWide 57 a b)) := by
  by_cases h0 : b = 0
  · subst h0
    have e : wWide 57 a 0 = a := by simp [wWide]
    rw [e]
    clear ha hb e
    go_enter Try.func28, Try.ntmps28
    go_wp2_with fail
    refine (word_plainly0 w a).mono ?_
    rintro e w' ⟨rfl, n, rfl⟩
    go_wp2_with fail
    go_ret
    exact wide_mk rfl
  · have K := Lib.hid (word_plainly w a b ha (by omega))
    have e : wWide 57 a b = a % b := by simp [wWide, h0]
    rw [e]
    clear ha hb e h0
    generalize a / b = q at *
    generalize a % b = r at *
    go_enter Try.func28, Try.ntmps28
    go_wp2_with fail
    refine K.out.mono ?_
    rintro e w' ⟨rfl, n, rfl⟩
    go_wp2_with fail
    go_ret
    exact wide_mk rfl
end Go.Proofs.Ytcpmjgjefhpgkaa
