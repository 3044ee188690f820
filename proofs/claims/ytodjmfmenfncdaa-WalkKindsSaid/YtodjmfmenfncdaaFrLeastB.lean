/-
  The least frame that is free; how many are taken.
-/
import Derived.Test.YtodjmfmenfncdaaPool3
namespace Go.Proofs.Ytodjmfmenfncdaa
open Go.RowKit

theorem least_free (Fr : Nat → Bool) (first : Nat) : ∀ n, ∃ L, first ≤ L ∧ L ≤ first + n ∧ (∀ g, first ≤ g → g < L → Fr g = false) ∧ (L < first + n → Fr L = true)
  | 0 => ⟨first, Nat.le_refl _, Nat.le_refl _, fun g a b => by omega, fun h => by omega⟩
  | n + 1 => by
    obtain ⟨L, h1, h2, h3, h4⟩ := least_free Fr first n
    by_cases e : L < first + n
    · exact ⟨L, h1, by omega, h3, fun _ => h4 e⟩
    · obtain rfl : L = first + n := by omega
      by_cases f : Fr (first + n) = true
      · exact ⟨first + n, h1, by omega, h3, fun _ => f⟩
      · refine ⟨first + n + 1, by omega, by omega, fun g a b => ?_, fun h => by omega⟩
        by_cases g0 : g = first + n
        · subst g0; simpa using f
        · exact h3 g a (by omega)
def tkn (Fr : Nat → Bool) (first F : Nat) : Nat → Bool := fun g => decide (first ≤ g ∧ g < F) && !Fr g
theorem tkn_cnt (Fr : Nat → Bool) (first F : Nat) (h : first ≤ F) : ∀ j, j ≤ F → cnt (tkn Fr first F) 0 j + cnt Fr first (j - first) = j - first
  | 0, _ => by simp [cnt]
  | j + 1, hj => by
    have ih := tkn_cnt Fr first F h j (by omega)
    rw [cnt, Nat.zero_add]
    by_cases e : first ≤ j
    · rw [show j + 1 - first = (j - first) + 1 from by omega, cnt, show first + (j - first) = j from by omega]
      have e2 : tkn Fr first F j = !Fr j := by unfold tkn; rw [decide_eq_true (by omega)]; rfl
      rw [e2]
      cases Fr j <;> simp <;> omega
    · have e2 : tkn Fr first F j = false := by unfold tkn; rw [decide_eq_false (by omega)]; rfl
      rw [e2, show j + 1 - first = 0 from by omega]
      rw [show j - first = 0 from by omega] at ih
      simpa using ih
def tct (Fr : Nat → Bool) (first F j : Nat) : Nat := cnt (tkn Fr first F) 0 j
theorem tct_succ (Fr : Nat → Bool) (first F j : Nat) : tct Fr first F (j + 1) = tct Fr first F j + (if tkn Fr first F j then 1 else 0) := by unfold tct; rw [cnt, Nat.zero_add]
theorem tct_le (Fr : Nat → Bool) (first F j : Nat) : tct Fr first F j ≤ j := cnt_le _ _ _
theorem tct_sum (Fr : Nat → Bool) (first F : Nat) (h : first ≤ F) : tct Fr first F F + cnt Fr first (F - first) = F - first := tkn_cnt Fr first F h F (Nat.le_refl _)
theorem tkn_int (Fr : Nat → Bool) (first F j : Nat) : (decide ((first : Int) ≤ (j : Int) ∧ (j : Int) < (F : Int)) && !Fr (j : Int).toNat) = tkn Fr first F j := by
  unfold tkn
  rw [Int.toNat_natCast]
  congr 1
  rw [decide_eq_decide]
  omega
theorem f_give_any {S : Nat → Prop} {w : World} {q p F first : Nat} {Fr : Nat → Bool} {V : Nat → Nat} (h : Pl S w q p F first Fr V) (hF : F ≤ 256) (f : Int) :
    Calls Try.prog 58 #[.pointer (some ⟨q, 0, none⟩), .int .i64 f] w fun e w' => ∃ Fr' V' c, StepF S w q p F first Fr' V' (.int .i64 c) e w' := by
  by_cases hf : (first : Int) ≤ f ∧ f < (F : Int) ∧ Fr f.toNat = false
  · obtain ⟨g, rfl⟩ := Int.eq_ofNat_of_zero_le (show 0 ≤ f by omega)
    exact (f_give_yes h hF g (by omega) (by omega) hf.2.2).mono fun _ _ k => ⟨_, _, _, k⟩
  · exact (f_give_no h hF f hf).mono fun _ _ k => ⟨_, _, _, k⟩

end Go.Proofs.Ytodjmfmenfncdaa
