/-
  Spaces in plain numbers: entries of tables, as memory is put, cleared and copied; the least frame that is free.
-/
import Derived.Test.YtodjmfmenfncdaaTyWalk2
import Derived.Test.YtodjmfmenfncdaaWdBack
import Derived.Test.YtodjmfmenfncdaaFrLeastB
namespace Go.Proofs.Ytodjmfmenfncdaa
open Go.RowKit

def ent (V : Nat → Nat) (t k : Nat) : Nat := entV V (t * 256 + 8 * k)
theorem ent_lt (V : Nat → Nat) (t k : Nat) : ent V t k < 18446744073709551616 := entV_lt V _
theorem entV_congr {V W : Nat → Nat} {a b : Nat} (h : ∀ i, i < 8 → V (a + i) = W (b + i)) : entV V a = entV W b := by
  unfold entV; rw [memStr_congr h]
/-- the entries of a frame hang on its bytes alone -/
theorem ent_congr {V W : Nat → Nat} {t k : Nat} (hk : k < 32) (h : ∀ a, a / 256 = t → V a = W a) : ent V t k = ent W t k :=
  entV_congr fun i hi => h _ (by omega)
theorem entV_none (a : Nat) : entV (fun _ => 0) a = 0 := by
  have h : entV (fun _ => 0) a = entV (fun _ => 0) 0 := entV_congr fun _ _ => rfl
  rw [h]
  decide +kernel
theorem clV_at {F f : Nat} (V : Nat → Nat) (h : f < F) (a : Nat) : clV F V (f : Int) a = if a / 256 = f then 0 else V a := by
  have e : cdF F (f : Int) = 0 := by unfold cdF; rw [if_pos (by omega)]
  unfold clV putV
  rw [if_pos e, Int.toNat_natCast]
  by_cases h1 : a / 256 = f
  · rw [if_pos h1, if_pos (by omega)]
  · rw [if_neg h1, if_neg (by omega)]
theorem ent_cl_same {F f k : Nat} (V : Nat → Nat) (h : f < F) (hk : k < 32) : ent (clV F V (f : Int)) f k = 0 := by
  have e : ent (clV F V (f : Int)) f k = ent (fun _ => 0) f k := ent_congr hk fun a ha => by rw [clV_at V h, if_pos ha]
  rw [e]
  exact entV_none _
theorem ent_cl_other {F f t k : Nat} (V : Nat → Nat) (h : f < F) (hk : k < 32) (ht : t ≠ f) : ent (clV F V (f : Int)) t k = ent V t k :=
  ent_congr hk fun a ha => by rw [clV_at V h, if_neg (by omega)]
theorem cdL8 {F b : Nat} (h : b + 8 ≤ F * 256) : cdL F b 8 = 0 := by
  unfold cdL
  rw [if_pos (by decide), if_pos (by show b + 8 ≤ F * 256; exact h)]
theorem st8_at {F b : Nat} (V : Nat → Nat) (v a : Nat) (h : a < b ∨ b + 8 ≤ a) : stV F V b 8 v a = V a := by
  unfold stV
  split
  · unfold putV
    rw [if_neg (by show ¬ (b ≤ a ∧ a < b + 8); omega)]
  · rfl
theorem wLow64 (v : Nat) (hv : v < 18446744073709551616) : wLow v (8 * ((8 : Nat) : Int)) = v := by
  unfold wLow
  split
  · omega
  · split
    · rfl
    · first | (exact Nat.mod_eq_of_lt (by simpa using hv)) | omega
theorem ent_st_same {F t k : Nat} (V : Nat → Nat) (v : Nat) (hv : v < 18446744073709551616) (h : t < F) (hk : k < 32) : ent (stV F V (t * 256 + 8 * k) 8 v) t k = v := by
  have hfit : t * 256 + 8 * k + 8 ≤ F * 256 := by omega
  have e := (ldV8 F (stV F V (t * 256 + 8 * k) 8 v) _ hfit).1
  have l := ld_st V F (t * 256 + 8 * k) v 8 hv (cdL8 hfit) (by omega)
  rw [wLow64 v hv] at l
  unfold ent
  rw [← e]
  exact l
theorem ent_st_other {F t k t' k' : Nat} (V : Nat → Nat) (v : Nat) (hk : k < 32) (hk' : k' < 32) (hne : t' ≠ t ∨ k' ≠ k) : ent (stV F V (t * 256 + 8 * k) 8 v) t' k' = ent V t' k' :=
  entV_congr fun i hi => st8_at V v _ (by omega)
theorem cpV_at {F a b : Nat} (V : Nat → Nat) (ha : a < F) (hb : b < F) (x : Nat) : cpV F V (a : Int) (b : Int) x = if x / 256 = a then V (b * 256 + x % 256) else V x := by
  have e : cdC F (a : Int) (b : Int) = 0 := by unfold cdC; rw [if_pos (by omega)]
  unfold cpV putV
  rw [if_pos e, Int.toNat_natCast, Int.toNat_natCast]
  by_cases h1 : x / 256 = a
  · rw [if_pos h1, if_pos (by omega)]
    congr 1
    omega
  · rw [if_neg h1, if_neg (by omega)]
theorem ent_cp_other {F a b t k : Nat} (V : Nat → Nat) (ha : a < F) (hb : b < F) (hk : k < 32) (ht : t ≠ a) : ent (cpV F V (a : Int) (b : Int)) t k = ent V t k :=
  ent_congr hk fun x hx => by rw [cpV_at V ha hb, if_neg (by omega)]

/-- the least of the first n that is free; n: none is -/
def lst (Fr : Nat → Bool) : Nat → Nat
  | 0 => 0
  | n + 1 => if lst Fr n < n then lst Fr n else if Fr n then n else n + 1
theorem lst_le (Fr : Nat → Bool) : ∀ n, lst Fr n ≤ n
  | 0 => Nat.le_refl _
  | n + 1 => by
    have := lst_le Fr n
    rw [lst]
    split
    · omega
    · split <;> omega
theorem lst_none (Fr : Nat → Bool) : ∀ n g, g < lst Fr n → Fr g = false
  | 0, g, h => by rw [lst] at h; omega
  | n + 1, g, h => by
    have ih := lst_none Fr n g
    have hl := lst_le Fr n
    rw [lst] at h
    split at h
    · exact ih h
    · split at h
      · exact ih (by omega)
      · rename_i h1 h2
        by_cases e : g = n
        · subst e; simpa using h2
        · exact ih (by omega)
theorem lst_some (Fr : Nat → Bool) : ∀ n, lst Fr n < n → Fr (lst Fr n) = true
  | 0, h => by omega
  | n + 1, h => by
    have ih := lst_some Fr n
    rw [lst] at h ⊢
    split
    · rename_i h1
      exact ih h1
    · split
      · assumption
      · rename_i h1 h2
        rw [if_neg h1, if_neg h2] at h
        omega
theorem cnt_zero_of {Fr : Nat → Bool} {a : Nat} : ∀ n, (∀ i, i < n → Fr (a + i) = false) → cnt Fr a n = 0
  | 0, _ => rfl
  | n + 1, h => by rw [cnt, cnt_zero_of n (fun i hi => h i (by omega)), h n (by omega)]; rfl
/-- some are free: so the least one is there -/
theorem lst_lt {Fr : Nat → Bool} {n : Nat} (h : 0 < cnt Fr 0 n) : lst Fr n < n := by
  have hl := lst_le Fr n
  by_cases e : lst Fr n < n
  · exact e
  · have := cnt_zero_of (Fr := Fr) (a := 0) n (fun i hi => lst_none Fr n (0 + i) (by omega))
    omega
theorem cnt_add (P : Nat → Bool) (a m : Nat) : ∀ n, cnt P a (m + n) = cnt P a m + cnt P (a + m) n
  | 0 => rfl
  | n + 1 => by rw [← Nat.add_assoc, cnt, cnt_add P a m n, cnt, Nat.add_assoc a m n]; omega
theorem cnt_mono {P Q : Nat → Bool} {a : Nat} : ∀ n, (∀ i, i < n → P (a + i) = true → Q (a + i) = true) → cnt P a n ≤ cnt Q a n
  | 0, _ => Nat.le_refl _
  | n + 1, h => by
    have ih := cnt_mono (P := P) (Q := Q) (a := a) n (fun i hi => h i (by omega))
    have hn := h n (by omega)
    rw [cnt, cnt]
    cases hp : P (a + n) with
    | false => simp; omega
    | true => rw [hn hp]; simp; omega
/-- the blocks of 32 -/
theorem cnt_blocks (P : Nat → Bool) (a : Nat) : ∀ n, cnt P (a * 32) (n * 32) = (List.range n).foldl (fun s k => s + cnt P ((a + k) * 32) 32) 0
  | 0 => rfl
  | n + 1 => by
    rw [List.range_succ, List.foldl_append, ← cnt_blocks P a n, show (n + 1) * 32 = n * 32 + 32 from by omega, cnt_add]
    simp only [List.foldl_cons, List.foldl_nil]
    rw [show a * 32 + n * 32 = (a + n) * 32 from by omega]
end Go.Proofs.Ytodjmfmenfncdaa
