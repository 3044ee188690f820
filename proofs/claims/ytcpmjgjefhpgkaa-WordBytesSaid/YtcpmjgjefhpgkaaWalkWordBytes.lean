/-
  The walk of the statement WordBytes: true, for every input.
-/
import Derived.Test.YtcpmjgjefhpgkaaWdShown
import Derived.Test.YtcpmjgjefhpgkaaWordL
import Derived.Test.YtcpmjgjefhpgkaaWordM
import Derived.Test.YtcpmjgjefhpgkaaRefBytes
namespace Go.Proofs.Ytcpmjgjefhpgkaa
open Go.RowKit

theorem byt_strOfNums (xs : List Nat) (hx : ∀ x ∈ xs, x < 256) (i : Nat) (hi : i < xs.length) : byt (strOfNums (xs.map (fun x : Nat => (x : Int)))) i = xs[i] := by
  unfold byt
  rw [strOfNums_data]
  have h := hx xs[i] (List.getElem_mem _)
  simp [List.getD, hi]
  omega
def wByN (v : Nat) : Nat → List Nat
  | 0 => []
  | n + 1 => v % 256 :: wByN (v / 256) n
theorem wBy_map (n : Nat) : ∀ v, wBy v n = (wByN v n).map (fun x : Nat => (x : Int)) := by
  induction n with
  | zero => intro v; rfl
  | succ n ih => intro v; simp [wBy, wByN, ih]
theorem wByN_len (n : Nat) : ∀ v, (wByN v n).length = n := by
  induction n with
  | zero => intro v; rfl
  | succ n ih => intro v; simp [wByN, ih]
theorem wByN_get (n : Nat) : ∀ v i (h : i < n), (wByN v n)[i]? = some (v / 256 ^ i % 256) := by
  induction n with
  | zero => intro v i h; omega
  | succ n ih =>
    intro v i h
    rcases i with _ | i
    · simp [wByN]
    · rw [wByN, List.getElem?_cons_succ, ih (v / 256) i (by omega), Nat.div_div_eq_div_mul, Nat.pow_succ, Nat.mul_comm 256]
theorem byt_wBy (v n i : Nat) (hi : i < n) : byt (strOfNums (wBy v n)) i = v / 256 ^ i % 256 := by
  have hg := wByN_get n v i hi
  have hl := wByN_len n v
  have h2 : (wByN v n)[i]'(by omega) = v / 256 ^ i % 256 := by
    rw [List.getElem?_eq_getElem (by omega)] at hg
    simpa using hg
  rw [wBy_map, byt_strOfNums _ (fun x hx => ?_) i (by omega), h2]
  obtain ⟨j, hj, rfl⟩ := List.getElem_of_mem hx
  have h3 := wByN_get n v j (by omega)
  rw [List.getElem?_eq_getElem hj] at h3
  simp at h3
  rw [h3]
  exact Nat.mod_lt _ (by omega)
theorem wOfN_wBy (v n : Nat) : ∀ k, k ≤ n → wOfN (strOfNums (wBy v n)) k = v % 256 ^ k := by
  intro k
  induction k with
  | zero => intro _; simp [wOfN, Nat.mod_one]
  | succ k ih =>
    intro hk
    rw [wOfN, ih (by omega), byt_wBy v n k (by omega), Nat.pow_succ, Nat.mod_mul, Nat.mul_comm (256 ^ k) (v / 256 ^ k % 256)]
theorem wOf_wBytes (v : Nat) (hv : v < 18446744073709551616) (n : Int) : wOf (wBytes v n) = wLow v (8 * (wCount n : Int)) := by
  unfold wOf
  rw [wBytes_size]
  have h8 : wCount n ≤ 8 := by unfold wCount; omega
  rw [Nat.min_eq_left h8, wBytes, wOfN_wBy v _ _ (Nat.le_refl _)]
  generalize wCount n = k at *
  unfold wLow
  by_cases h0 : k = 0
  · subst h0; simp [Nat.mod_one]
  · rw [if_neg (by omega)]
    by_cases h1 : k = 8
    · subst h1
      rw [if_pos (by omega)]
      exact Nat.mod_eq_of_lt (by omega)
    · rw [if_neg (by omega), show (8 * (k : Int)).toNat = 8 * k from by omega, Nat.pow_mul]

set_option maxHeartbeats 800000 in
theorem wordBytes_walk (w : World) (a0 : Int) (w0 : (Lit.int .u64 a0).wf = true) (n : Int) (w1 : (Lit.int .i64 n).wf = true) (s : ByteArray) (w2 : s.size ≤ 140737488351232) :
    Calls Try.prog 12 #[.int .u64 a0, .int .i64 n, .string s] w fun e w' => e = .returned (.bool true) ∧ Below w.heap.size w w' := by
  obtain ⟨a, rfl, ha⟩ := u64_nat w0
  have hm : s.size ≤ maxLen := by unfold maxLen; omega
  have hb8 : (wBytes a n).size = wCount n := wBytes_size a n
  have hcn : wCount n ≤ 8 := by unfold wCount; omega
  have hm2 : (wBytes a n).size ≤ maxLen := by unfold maxLen; omega
  have K1 := fun W => Lib.hid (word_bytes W a ha n)
  have K2 := fun W => Lib.hid (word_of W s hm)
  have K3 := fun W => Lib.hid (word_of W (wBytes a n) hm2)
  have K4 := fun W => Lib.hid (ref_bytes W a ha n)
  have K5 := fun W => Lib.hid (ref_of W s hm)
  have K6 := fun W x (hx : x = 8 * (wCount n : Int)) => Lib.hid (show Calls Try.prog 16 #[.int .u64 a, .int .i64 x] W fun e w' => e = .returned (.int .u64 (wLow a (8 * (wCount n : Int)) : Nat)) ∧ W = w' from hx ▸ word_low W a ha x)
  rw [wOf_wBytes a ha n] at K3
  have hw : (n < 0 ∧ wCount n = 0) ∨ (8 < n ∧ wCount n = 8) ∨ (0 ≤ n ∧ n ≤ 8 ∧ (wCount n : Int) = n) := by unfold wCount; omega
  generalize wLow a (8 * (wCount n : Int)) = l at *
  generalize wOf s = o at *
  generalize wBytes a n = t at *
  have C1 := Lib.hid K1; have C2 := Lib.hid K2; have C3 := Lib.hid K3; have C4 := Lib.hid K4; have C5 := Lib.hid K5; have C6 := Lib.hid K6
  clear K1 K2 K3 K4 K5 K6 ha w0 w1 w2 hm hm2
  go_enter Try.func12, Try.ntmps12
  go_wp2_with fail
  refine (wshown _).mono ?_
  rintro e w1 ⟨rfl, hsh⟩
  have H1 := Lib.hid hsh; clear hsh
  go_wp2_with fail
  refine (C1.out w1).out.mono ?_
  rintro e w2 ⟨rfl, q2⟩
  have Q2 := Lib.hid q2; clear q2
  go_wp2_with fail
  refine (C2.out w2).out.mono ?_
  rintro e w3 ⟨rfl, rfl⟩
  go_wp2_with fail
  refine (C3.out w2).out.mono ?_
  rintro e w3 ⟨rfl, rfl⟩
  have HW := Lib.hid hw
  obtain ⟨N, hN⟩ : ∃ N : Nat, N = wCount n := ⟨_, rfl⟩
  have hsz : ((t.size : Nat) : Int) = (N : Int) := by omega
  have C6' : ∀ W (x : Int), x = 8 * (N : Int) → Hid (Calls Try.prog 16 #[.int .u64 a, .int .i64 x] W fun e w' => e = .returned (.int .u64 (l : Nat)) ∧ W = w') := fun W x hx => C6.out W x (by rw [← hN]; exact hx)
  have C7 := Lib.hid C6'
  clear C6 C6' hw hb8
  rcases HW.out with ⟨h0, h1⟩ | ⟨h0, h1⟩ | ⟨h0, h2, h1⟩
  · obtain rfl : N = 0 := by omega
    clear h1 hN hcn HW
    go_wp2_with fail
    refine (C4.out w2).out.mono ?_
    rintro e w4 ⟨rfl, q4⟩
    have Q4 := Lib.hid q4; clear q4
    go_wp2_with fail
    refine (C5.out w4).out.mono ?_
    rintro e w5 ⟨rfl, rfl⟩
    go_wp2_with fail
    refine ((C7.out w4 _ (by omega)).out).mono ?_
    rintro e w5 ⟨rfl, rfl⟩
    go_wp2_with fail
    go_ret
    exact ⟨ret_bool (by simp [hsz]), (((H1.out.trans Q2.out).trans Q4.out)).below (Nat.le_refl _) (fun _ h => h.elim)⟩
  · obtain rfl : N = 8 := by omega
    clear h1 hN hcn HW
    go_wp2_with fail
    refine (C4.out w2).out.mono ?_
    rintro e w4 ⟨rfl, q4⟩
    have Q4 := Lib.hid q4; clear q4
    go_wp2_with fail
    refine (C5.out w4).out.mono ?_
    rintro e w5 ⟨rfl, rfl⟩
    go_wp2_with fail
    refine ((C7.out w4 _ (by omega)).out).mono ?_
    rintro e w5 ⟨rfl, rfl⟩
    go_wp2_with fail
    go_ret
    exact ⟨ret_bool (by simp [hsz]), (((H1.out.trans Q2.out).trans Q4.out)).below (Nat.le_refl _) (fun _ h => h.elim)⟩
  · obtain rfl : n = (N : Int) := by omega
    clear h1 hN hcn HW
    have x8 : wrap64 (8 * (N : Int)) = 8 * (N : Int) := by unfold wrap64; omega
    go_wp2_with fail
    refine (C4.out w2).out.mono ?_
    rintro e w4 ⟨rfl, q4⟩
    have Q4 := Lib.hid q4; clear q4
    go_wp2_with fail
    refine (C5.out w4).out.mono ?_
    rintro e w5 ⟨rfl, rfl⟩
    go_wp2_with fail
    refine ((C7.out w4 _ (by omega)).out).mono ?_
    rintro e w5 ⟨rfl, rfl⟩
    go_wp2_with fail
    go_ret
    exact ⟨ret_bool (by simp [hsz]), (((H1.out.trans Q2.out).trans Q4.out)).below (Nat.le_refl _) (fun _ h => h.elim)⟩
end Go.Proofs.Ytcpmjgjefhpgkaa
