/-
  The document's shift, high, signed by their contracts.
-/
import Derived.Test.YtcpmjgjefhpgkaaRefA
namespace Go.Proofs.Ytcpmjgjefhpgkaa
open Go.RowKit

theorem div_pow_succ (a k : Nat) : a / 2 ^ (k + 1) = a / 2 ^ k / 2 := by rw [Nat.pow_succ, Nat.div_div_eq_div_mul]

theorem ref_shift0 (w : World) (a n : Nat) (ha : a < 18446744073709551616) (hn : n < 64) :
    Calls Try.prog 37 #[.int .u64 a, .int .i64 n, .int .u64 0] w fun e w' => e = .returned (.int .u64 (a / 2 ^ n : Nat)) ∧ w = w' := by
  have HA := Lib.hid ha
  clear ha
  go_enter Try.func37, Try.ntmps37
  go_wp2_with fail
  go_loop [0, 7] (fun x i => ∃ k : Nat, k ≤ n ∧ Hid (x = .int .u64 ((a / 2 ^ k : Nat) : Int)) ∧ i = .int .i64 k) (fun _ i => n - (intOf i).toNat)
  case atStart => exact ⟨0, Nat.zero_le _, (by simp [Hid]), rfl⟩
  case round =>
    obtain ⟨k, hk, hx, rfl⟩ := hrel
    obtain rfl := hx.out
    clear hx
    have lt0 : k < n ∨ k = n := by omega
    rcases lt0 with hlt | hlt
    · have hy : a / 2 ^ k < 18446744073709551616 := Nat.lt_of_le_of_lt (Nat.div_le_self _ _) HA.out
      have D := Lib.hid (div_pow_succ a k)
      generalize a / 2 ^ k = y at *
      have F : IntKind.u64.wrap ((y : Int) / 2) = (y : Int) / 2 := by rw [u64_wrap]; omega
      have F2 : IntKind.u64.wrap 0 = 0 := by rw [u64_wrap]; rfl
      have HY := Lib.hid hy
      clear hy
      go_wp2_with fail
      exact ⟨⟨k + 1, by omega, congrArg (Value.int IntKind.u64) (by rw [D.out]; omega), by go_num⟩, by simp [intOf]; omega⟩
    · subst hlt
      generalize hy : a / 2 ^ k = y at *
      have HY := Lib.hid hy; clear hy
      go_wp2_with fail
      go_ret
      exact ⟨ret_int (by rw [← HY.out]; simp), rfl⟩

theorem sg_div_succ (x : Int) (k : Nat) : x / 2 ^ (k + 1) = x / 2 ^ k / 2 := by
  rw [Int.pow_succ, Int.ediv_ediv_of_nonneg (Int.pow_nonneg (by omega))]

theorem sg_div_range (a k : Nat) (ha : a < 18446744073709551616) (hn : 9223372036854775808 ≤ a) : -9223372036854775808 ≤ sg a / 2 ^ k ∧ sg a / 2 ^ k < 0 := by
  have h : sg a < 0 ∧ -9223372036854775808 ≤ sg a := by unfold sg; split <;> omega
  have hp : (0 : Int) < 2 ^ k := Int.pow_pos (by omega)
  refine ⟨?_, Int.ediv_neg_of_neg_of_pos h.1 hp⟩
  have : ((-9223372036854775808 : Int)) * 2 ^ k ≤ -9223372036854775808 := by
    have h1 : (1 : Int) ≤ 2 ^ k := by omega
    omega
  exact (Int.le_ediv_iff_mul_le hp).mpr (by omega)

theorem ref_shift1 (w : World) (a n : Nat) (ha : a < 18446744073709551616) (hb : 9223372036854775808 ≤ a) (hn : n < 64) :
    Calls Try.prog 37 #[.int .u64 a, .int .i64 n, .int .u64 1] w fun e w' => e = .returned (.int .u64 (un (sg a / 2 ^ n) : Nat)) ∧ w = w' := by
  have HR := fun k => Lib.hid (sg_div_range a k ha hb)
  have H0 : un (sg a) = a := un_sg a ha
  have H00 := Lib.hid H0
  have HR' := Lib.hid HR
  clear ha H0 HR
  go_enter Try.func37, Try.ntmps37
  go_wp2_with fail
  go_loop [0, 7] (fun x i => ∃ k : Nat, k ≤ n ∧ Hid (x = .int .u64 ((un (sg a / 2 ^ k) : Nat) : Int)) ∧ i = .int .i64 k) (fun _ i => n - (intOf i).toNat)
  case atStart => exact ⟨0, Nat.zero_le _, (by simp [Hid, H00.out]), rfl⟩
  case round =>
    obtain ⟨k, hk, hx, rfl⟩ := hrel
    obtain rfl := hx.out
    clear hx
    have lt0 : k < n ∨ k = n := by omega
    rcases lt0 with hlt | hlt
    · have R := (HR'.out k).out
      have D := Lib.hid (sg_div_succ (sg a) k)
      have U : ((un (sg a / 2 ^ k) : Nat) : Int) = sg a / 2 ^ k + 18446744073709551616 := by unfold un; omega
      have U2 : ((un (sg a / 2 ^ (k + 1)) : Nat) : Int) = ((un (sg a / 2 ^ k) : Nat) : Int) / 2 + 9223372036854775808 := by rw [U, D.out]; unfold un; omega
      have HU2 := Lib.hid U2
      have hy : un (sg a / 2 ^ k) < 18446744073709551616 := un_lt _
      clear U U2 D R
      generalize hz : un (sg a / 2 ^ (k + 1)) = z at *
      have HZ := Lib.hid hz; clear hz
      generalize un (sg a / 2 ^ k) = y at *
      have F : IntKind.u64.wrap ((y : Int) / 2) = (y : Int) / 2 := by rw [u64_wrap]; omega
      have F2 : IntKind.u64.wrap 9223372036854775808 = 9223372036854775808 := by rw [u64_wrap]; rfl
      have F3 : IntKind.u64.wrap ((y : Int) / 2 + 9223372036854775808) = (y : Int) / 2 + 9223372036854775808 := by rw [u64_wrap]; omega
      have HY := Lib.hid hy
      clear hy
      go_wp2_with fail
      exact ⟨⟨k + 1, by omega, congrArg (Value.int IntKind.u64) (HU2.out.symm.trans (by rw [← HZ.out])), by go_num⟩, by simp [intOf]; omega⟩
    · subst hlt
      generalize hy : un (sg a / 2 ^ k) = y at *
      have HY := Lib.hid hy; clear hy
      go_wp2_with fail
      go_ret
      exact ⟨ret_int (by rw [← HY.out]), rfl⟩

/-- one round of the multiplication, bit by bit -/
theorem high_round (a c H L q : Nat) (ha : a < 18446744073709551616) (hc : c < 18446744073709551616) (hL : L < 18446744073709551616) (hq : q = c / 2)
    (h : H * 18446744073709551616 + L = a * q) :
    (c % 2 = 0 → (H * 2 + L / 9223372036854775808) * 18446744073709551616 + L * 2 % 18446744073709551616 = a * c) ∧
    (c % 2 = 1 → (H * 2 + L / 9223372036854775808) * 18446744073709551616 + L * 2 % 18446744073709551616 + a = a * c) ∧
    H * 2 + L / 9223372036854775808 < 18446744073709551615 := by
  have e : a * c = a * q * 2 + a * (c % 2) := by
    have : c = q * 2 + c % 2 := by omega
    calc a * c = a * (q * 2 + c % 2) := by rw [← this]
      _ = _ := by rw [Nat.mul_add, Nat.mul_assoc]
  have hb : a * q ≤ 18446744073709551615 * 9223372036854775807 := Nat.mul_le_mul (by omega) (by omega)
  have f : L * 2 = L / 9223372036854775808 * 18446744073709551616 + L * 2 % 18446744073709551616 := by omega
  generalize L * 2 % 18446744073709551616 = Y at *
  generalize L / 9223372036854775808 = Z at *
  generalize a * q = m at *
  refine ⟨fun h0 => ?_, fun h1 => ?_, by omega⟩
  · have e1 : a * (c % 2) = 0 := by simp [h0]
    rw [e1] at e
    generalize a * c = M at *
    clear hb e1 ha hc hL hq
    have : M = m * 2 := by omega
    subst this
    subst h
    rw [Nat.add_mul, Nat.add_mul, Nat.mul_right_comm, Nat.add_assoc, ← f]
  · have e1 : a * (c % 2) = a := by simp [h1]
    rw [e1] at e
    generalize a * c = M at *
    clear hb e1 ha hc hL hq
    subst e
    subst h
    rw [Nat.add_mul, Nat.add_mul, Nat.mul_right_comm, Nat.add_assoc (H * 18446744073709551616 * 2), ← f]

set_option maxHeartbeats 800000 in
theorem ref_high (w : World) (a b : Nat) (ha : a < 18446744073709551616) (hb : b < 18446744073709551616) :
    Calls Try.prog 38 #[.int .u64 a, .int .u64 b] w fun e w' => e = .returned (.int .u64 (a * b / 18446744073709551616 : Nat)) ∧ w = w' := by
  have HA := Lib.hid ha
  have HB := Lib.hid hb
  clear ha hb
  go_enter Try.func38, Try.ntmps38
  go_wp2_with fail
  go_loop [5, 6, 7, 8] (fun x y i _ => ∃ k H L : Nat, k ≤ 64 ∧ Hid (x = .int .u64 (H : Int) ∧ y = .int .u64 (L : Int) ∧ H < 18446744073709551616 ∧ L < 18446744073709551616 ∧ H * 18446744073709551616 + L = a * (b / 2 ^ k)) ∧ i = .int .i64 ((k : Int) - 1)) (fun _ _ i _ => (intOf i + 1).toNat)
  case atStart => exact ⟨64, 0, 0, by omega, ⟨rfl, rfl, by omega, by omega, by have := HB.out; rw [Nat.div_eq_of_lt (by omega)]; omega⟩, rfl⟩
  case round =>
    obtain ⟨k, H, L, hk, hx, rfl⟩ := hrel
    obtain ⟨rfl, rfl, hH, hL, hT⟩ := hx.out
    clear hx
    rcases k with _ | k
    · have F : a * b / 18446744073709551616 = H := by
        rw [Nat.pow_zero, Nat.div_one] at hT
        omega
      have HF := Lib.hid F
      clear F hT hH hL
      go_wp2_with fail
      go_ret
      exact ⟨ret_int (by rw [← HF.out]; simp), rfl⟩
    · have hc : b / 2 ^ k < 18446744073709551616 := Nat.lt_of_le_of_lt (Nat.div_le_self _ _) HB.out
      have R := high_round a (b / 2 ^ k) H L (b / 2 ^ (k + 1)) HA.out hc hL (div_pow_succ b k) hT
      have P := Lib.hid (fun x (hx : x = (k : Int)) => ref_power' w x k hx (by omega))
      have hpos := Nat.two_pow_pos k
      have hplt := pow_lt_64 k (by omega)
      have FD : ((b : Int)) / ((2 ^ k : Nat) : Int) = ((b / 2 ^ k : Nat) : Int) := by simp
      generalize hT2 : a * (b / 2 ^ k) = T at *
      have HT2 := Lib.hid hT2
      clear hT hT2
      generalize hcb : b / 2 ^ k = c at *
      have HC := Lib.hid hcb; clear hcb
      generalize hy : 2 ^ k = y at *
      have HC' : b / 2 ^ k = c := by rw [hy]; exact HC.out
      have HC2 := Lib.hid HC'; clear HC' hy
      have b0 := nat_mod_ne hpos
      have b1 : ¬ ((y : Int)) = 0 := by omega
      have b2 : ¬ y = 0 := by omega
      obtain ⟨R0, R1, R2⟩ := R
      have F1 : IntKind.u64.wrap ((H : Int) * 2) = (H : Int) * 2 := by rw [u64_wrap]; omega
      have F2 : IntKind.u64.wrap ((L : Int) / 9223372036854775808) = (L : Int) / 9223372036854775808 := by rw [u64_wrap]; omega
      obtain ⟨X, hX⟩ : ∃ X, X = H * 2 + L / 9223372036854775808 := ⟨_, rfl⟩
      obtain ⟨Y, hY⟩ : ∃ Y, Y = L * 2 % 18446744073709551616 := ⟨_, rfl⟩
      rw [← hX, ← hY] at R0 R1
      rw [← hX] at R2
      have F3 : IntKind.u64.wrap ((H : Int) * 2 + (L : Int) / 9223372036854775808) = (X : Int) := by rw [u64_wrap]; omega
      have F4 : IntKind.u64.wrap ((L : Int) * 2) = (Y : Int) := by rw [u64_wrap]; omega
      have hYlt : Y < 18446744073709551616 := by omega
      have hc2 : c % 2 = 0 ∨ c % 2 = 1 := by omega
      have FC : IntKind.u64.wrap ((c : Int)) = (c : Int) := by rw [u64_wrap]; omega
      have ha := HA.out
      clear hX hY hH hL hplt hpos hc
      rcases hc2 with h2 | h2
      · have t1 : decide ((c : Int) % 2 = 1) = false := decide_eq_false (by omega)
        have t2 : ((c : Int) % 2 == 1) = false := by simp; omega
        have t3 : ¬ c % 2 = 1 := by omega
        have G := Lib.hid (And.intro (show X < 18446744073709551616 by omega) (And.intro hYlt ((R0 h2).trans HT2.out.symm)))
        clear R0 R1 R2 hYlt h2 ha
        go_wp2_with fail
        refine (P.out _ (by omega)).mono ?_
        rintro e w' ⟨rfl, rfl⟩
        go_wp2_with fail
        exact ⟨⟨k, X, Y, by omega, Lib.hid ⟨rfl, rfl, G.out.1, G.out.2.1, by rw [HC2.out]; exact G.out.2.2⟩, rfl⟩, by simp [intOf]⟩
      · have t1 : decide ((c : Int) % 2 = 1) = true := decide_eq_true (by omega)
        have t2 : ((c : Int) % 2 == 1) = true := by simp; omega
        have R1' := (R1 h2)
        rcases Nat.lt_or_ge (Y + a) 18446744073709551616 with hs | hs
        · obtain ⟨S, hS⟩ : ∃ S, S = Y + a := ⟨_, rfl⟩
          have F5 : IntKind.u64.wrap ((Y : Int) + (a : Int)) = (S : Int) := by rw [u64_wrap]; omega
          have t4 : decide ((S : Int) < (Y : Int)) = false := decide_eq_false (by omega)
          have t5 : ¬ S < Y := by omega
          have G := Lib.hid (And.intro (show X < 18446744073709551616 by omega) (And.intro (show S < 18446744073709551616 by omega) (show X * 18446744073709551616 + S = T by rw [hS, ← Nat.add_assoc]; exact R1')))
          clear R0 R1 R2 R1' hYlt ha hs hS
          go_wp2_with fail
          refine (P.out _ (by omega)).mono ?_
          rintro e w' ⟨rfl, rfl⟩
          go_wp2_with fail
          exact ⟨⟨k, X, S, by omega, Lib.hid ⟨rfl, rfl, G.out.1, G.out.2.1, by rw [HC2.out]; exact G.out.2.2.trans HT2.out.symm⟩, rfl⟩, by simp [intOf]⟩
        · obtain ⟨S, hS⟩ : ∃ S, S + 18446744073709551616 = Y + a := ⟨Y + a - 18446744073709551616, by omega⟩
          have F5 : IntKind.u64.wrap ((Y : Int) + (a : Int)) = (S : Int) := by rw [u64_wrap]; omega
          have t4 : decide ((S : Int) < (Y : Int)) = true := decide_eq_true (by omega)
          have t5 : S < Y := by omega
          obtain ⟨X2, hX2⟩ : ∃ X2, X2 = X + 1 := ⟨_, rfl⟩
          have F6 : IntKind.u64.wrap ((X : Int) + 1) = (X2 : Int) := by rw [u64_wrap]; omega
          have G := Lib.hid (And.intro (show X2 < 18446744073709551616 by omega) (And.intro (show S < 18446744073709551616 by omega) (show X2 * 18446744073709551616 + S = T by rw [hX2, Nat.add_mul, Nat.one_mul, Nat.add_assoc, Nat.add_comm 18446744073709551616, hS, ← Nat.add_assoc]; exact R1')))
          clear R0 R1 R2 R1' hYlt ha hs hS hX2
          go_wp2_with fail
          refine (P.out _ (by omega)).mono ?_
          rintro e w' ⟨rfl, rfl⟩
          go_wp2_with fail
          exact ⟨⟨k, X2, S, by omega, Lib.hid ⟨rfl, rfl, G.out.1, G.out.2.1, by rw [HC2.out]; exact G.out.2.2.trans HT2.out.symm⟩, rfl⟩, by simp [intOf]⟩

theorem sg_pos (a : Nat) (h : a < 9223372036854775808) : sg a = ((wSize a : Nat) : Int) := by unfold sg wSize; rw [if_pos h, if_neg (by omega)]
theorem sg_minus (a : Nat) (h : 9223372036854775808 ≤ a) (h2 : a < 18446744073709551616) : sg a = -((wSize a : Nat) : Int) := by unfold sg wSize; rw [if_neg (by omega), if_pos h]; omega
theorem size_pos (a : Nat) (h : a ≠ 0) (h2 : a < 18446744073709551616) : 0 < wSize a := by unfold wSize; split <;> omega
theorem size_le (a : Nat) (h2 : a < 18446744073709551616) : wSize a ≤ 9223372036854775808 := by unfold wSize; split <;> omega

theorem ref_signed0 (w : World) (a : Nat) :
    Calls Try.prog 39 #[.int .u64 a, .int .u64 0] w fun e w' => e = .returned (.tuple #[.int .u64 18446744073709551615, .int .u64 a]) ∧ w = w' := by
  go_enter Try.func39, Try.ntmps39
  go_wp2_with fail
  go_ret2
  exact ⟨rfl, rfl⟩

theorem un_neg (q : Nat) (h : q < 18446744073709551616) : IntKind.u64.wrap (-(q : Int)) = ((un (-(q : Int)) : Nat) : Int) := u64_un _

set_option maxHeartbeats 800000 in
theorem ref_signed (w : World) (a b : Nat) (ha : a < 18446744073709551616) (hb : b < 18446744073709551616) (hb0 : b ≠ 0) :
    Calls Try.prog 39 #[.int .u64 a, .int .u64 b] w fun e w' => e = .returned (.tuple #[.int .u64 (un ((sg a).tdiv (sg b)) : Nat), .int .u64 (un ((sg a).tmod (sg b)) : Nat)]) ∧ w = w' := by
  have N1 := fun W => Lib.hid (ref_negative W a)
  have N2 := fun W => Lib.hid (ref_negative W b)
  have S1 := fun W => Lib.hid (ref_size W a ha)
  have S2 := fun W => Lib.hid (ref_size W b hb)
  have z1 := size_pos b hb0 hb
  have z2 := size_le a ha
  have b0 : ((b : Int) == 0) = false := nat_mod_ne (by omega)
  have b1 : ¬ (b : Int) = 0 := by omega
  by_cases h1 : 9223372036854775808 ≤ a <;> by_cases h2 : 9223372036854775808 ≤ b
  all_goals
    try rw [sg_minus a h1 ha]
    try rw [sg_pos a (by omega)]
    try rw [sg_minus b h2 hb]
    try rw [sg_pos b (by omega)]
    simp only [Int.neg_tdiv, Int.tdiv_neg, Int.neg_neg, Int.neg_tmod, Int.tmod_neg, ← Int.ofNat_tdiv, ← Int.ofNat_tmod]
    simp only [h1, h2, decide_true, decide_false] at N1 N2
    generalize wSize a = x at *
    generalize wSize b = y at *
    have y0 : ((y : Int) == 0) = false := nat_mod_ne z1
    have y1 : ¬ (y : Int) = 0 := by omega
    have y2 : ¬ y = 0 := by omega
    have q1 : x / y < 18446744073709551616 := Nat.lt_of_le_of_lt (Nat.div_le_self _ _) (by omega)
    have q2 : x % y < 18446744073709551616 := Nat.lt_of_le_of_lt (Nat.mod_le _ _) (by omega)
    have D1 : (x : Int) / (y : Int) = ((x / y : Nat) : Int) := by simp
    have D2 : (x : Int) % (y : Int) = ((x % y : Nat) : Int) := by simp
    generalize x / y = q at *
    generalize x % y = r at *
    have D3 := un_nat q q1
    have D4 := un_nat r q2
    have D5 := un_neg q q1
    have D6 := un_neg r q2
    try rw [D3]
    try rw [D4]
    generalize un (-(q : Int)) = nq at *
    generalize un (-(r : Int)) = nr at *
    have W1 := u64_wrap_lt q q1
    have M1 := Lib.hid N1; have M2 := Lib.hid N2; have T1 := Lib.hid S1; have T2 := Lib.hid S2
    clear N1 N2 S1 S2 D3 D4 z1 z2 q1 q2 ha hb hb0 h1 h2
    go_enter Try.func39, Try.ntmps39
    go_wp2_with fail
    refine (T1.out _).out.mono ?_
    rintro e w' ⟨rfl, rfl⟩
    go_wp2_with fail
    refine (T2.out _).out.mono ?_
    rintro e w' ⟨rfl, rfl⟩
    go_wp2_with fail
    refine (T1.out _).out.mono ?_
    rintro e w' ⟨rfl, rfl⟩
    go_wp2_with fail
    refine (T2.out _).out.mono ?_
    rintro e w' ⟨rfl, rfl⟩
    go_wp2_with fail
    refine (M1.out _).out.mono ?_
    rintro e w' ⟨rfl, rfl⟩
    go_wp2_with fail
    refine (M2.out _).out.mono ?_
    rintro e w' ⟨rfl, rfl⟩
    go_wp2_with fail
    go_ret2
    exact ⟨rfl, rfl⟩
end Go.Proofs.Ytcpmjgjefhpgkaa
