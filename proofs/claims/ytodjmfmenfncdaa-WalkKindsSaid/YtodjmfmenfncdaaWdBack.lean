/-
  The word of a word's bytes is its low bits; what is put is got.
-/
import Derived.Test.YtodjmfmenfncdaaPhActs
import Derived.Test.YtodjmfmenfncdaaRefBytes
namespace Go.Proofs.Ytodjmfmenfncdaa
open Go.RowKit

theorem byt_strOfNums (xs : List Nat) (hx : ∀ x ∈ xs, x < 256) (i : Nat) (hi : i < xs.length) : byt (strOfNums (xs.map (fun x : Nat => (x : Int)))) i = xs[i] := by
  unfold byt
  rw [strOfNums_data]
  have h := hx xs[i] (List.getElem_mem _)
  simp [List.getD, hi]
  omega
def wByN (v : Nat) : Nat → List Nat
  | 0 => []
  | n + 1 => v % 256 :: wByN (v / 256) n
theorem wBy_map (n : Nat) : ∀ v, wBy v n = (wByN v n).map (fun x : Nat => (x : Int)) := by
  induction n with
  | zero => intro v; rfl
  | succ n ih => intro v; simp [wBy, wByN, ih]
theorem wByN_len (n : Nat) : ∀ v, (wByN v n).length = n := by
  induction n with
  | zero => intro v; rfl
  | succ n ih => intro v; simp [wByN, ih]
theorem wByN_get (n : Nat) : ∀ v i (_h : i < n), (wByN v n)[i]? = some (v / 256 ^ i % 256) := by
  induction n with
  | zero => intro v i h; omega
  | succ n ih =>
    intro v i h
    rcases i with _ | i
    · simp [wByN]
    · rw [wByN, List.getElem?_cons_succ, ih (v / 256) i (by omega), Nat.div_div_eq_div_mul, Nat.pow_succ, Nat.mul_comm 256]
theorem byt_wBy (v n i : Nat) (hi : i < n) : byt (strOfNums (wBy v n)) i = v / 256 ^ i % 256 := by
  have hg := wByN_get n v i hi
  have hl := wByN_len n v
  have h2 : (wByN v n)[i]'(by omega) = v / 256 ^ i % 256 := by
    rw [List.getElem?_eq_getElem (by omega)] at hg
    simpa using hg
  rw [wBy_map, byt_strOfNums _ (fun x hx => ?_) i (by omega), h2]
  obtain ⟨j, hj, rfl⟩ := List.getElem_of_mem hx
  have h3 := wByN_get n v j (by omega)
  rw [List.getElem?_eq_getElem hj] at h3
  simp at h3
  rw [h3]
  exact Nat.mod_lt _ (by omega)
theorem wOfN_wBy (v n : Nat) : ∀ k, k ≤ n → wOfN (strOfNums (wBy v n)) k = v % 256 ^ k := by
  intro k
  induction k with
  | zero => intro _; simp [wOfN, Nat.mod_one]
  | succ k ih =>
    intro hk
    rw [wOfN, ih (by omega), byt_wBy v n k (by omega), Nat.pow_succ, Nat.mod_mul, Nat.mul_comm (256 ^ k) (v / 256 ^ k % 256)]
theorem wOf_wBytes (v : Nat) (hv : v < 18446744073709551616) (n : Int) : wOf (wBytes v n) = wLow v (8 * (wCount n : Int)) := by
  unfold wOf
  rw [wBytes_size]
  have h8 : wCount n ≤ 8 := by unfold wCount; omega
  rw [Nat.min_eq_left h8, wBytes, wOfN_wBy v _ _ (Nat.le_refl _)]
  generalize wCount n = k at *
  unfold wLow
  by_cases h0 : k = 0
  · subst h0; simp [Nat.mod_one]
  · rw [if_neg (by omega)]
    by_cases h1 : k = 8
    · subst h1
      rw [if_pos (by omega)]
      exact Nat.mod_eq_of_lt (by omega)
    · rw [if_neg (by omega), show (8 * (k : Int)).toNat = 8 * k from by omega, Nat.pow_mul]

theorem memStr_byt (s : ByteArray) : memStr (byt s) 0 s.size = s := by
  obtain ⟨⟨l⟩⟩ := s
  unfold memStr
  apply ByteArray.ext
  apply Array.ext'
  rw [strOfNums_data]
  apply List.ext_getElem
  · simp [ByteArray.size]
  · intro i h1 h2
    simp at h1 h2
    simp [byt, List.getD, h2]

theorem memStr_putV (V : Nat → Nat) (at_ : Nat) (s : ByteArray) : memStr (putV V at_ s.size (byt s)) at_ s.size = s := by
  refine Eq.trans (memStr_congr fun i hi => ?_) (memStr_byt s)
  unfold putV
  rw [if_pos (by omega)]
  congr 1
  omega
theorem ld_st (V : Nat → Nat) (F at_ v : Nat) (n : Nat) (hv : v < 18446744073709551616) (hc : cdL F at_ (n : Int) = 0) (h8 : n ≤ 8) :
    ldV F (stV F V at_ (n : Int) v) at_ (n : Int) = wLow v (8 * (n : Int)) := by
  have hs : (wBytes v (n : Int)).size = n := by rw [wBytes_size]; unfold wCount; omega
  unfold ldV stV
  rw [if_pos hc, if_pos hc, Int.toNat_natCast]
  have e : memStr (putV V at_ n (byt (wBytes v (n : Int)))) at_ n = wBytes v (n : Int) := by
    have := memStr_putV V at_ (wBytes v (n : Int))
    rw [hs] at this
    exact this
  rw [e, wOf_wBytes v hv, show wCount (n : Int) = n from by unfold wCount; omega]
theorem ld_beside (V : Nat → Nat) (F at_ v b : Nat) (n : Int) (h : b < at_ ∨ at_ + n.toNat ≤ b) : ldV F (stV F V at_ n v) b 1 = ldV F V b 1 := by
  unfold ldV stV
  split
  · split
    · congr 1
      apply memStr_congr
      intro i hi
      unfold putV
      rw [if_neg (by have : (1 : Int).toNat = 1 := rfl; omega)]
    · rfl
  · rfl
end Go.Proofs.Ytodjmfmenfncdaa
