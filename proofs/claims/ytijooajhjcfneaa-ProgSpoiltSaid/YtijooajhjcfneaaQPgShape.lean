/-
  The shape of a program's space, in plain numbers.
-/
import Derived.Test.YtijooajhjcfneaaQPgFill2
namespace Go.Proofs.Ytijooajhjcfneaa
open Go.RowKit

/-- m pages from 1 on, the stack's, their tables, the root -/
def shQ (m : Nat) (l j : Nat) : Bool := match l with
  | 0 => decide (1 ≤ j ∧ j < 1 + m) || decide (56 ≤ j ∧ j < 64)
  | 1 => decide (j < 2)
  | 2 => decide (j = 0)
  | 3 => decide (j = 0)
  | _ => false
theorem cnt_0 (m : Nat) (hm : m ≤ 28) : ∀ n, cnt (shQ m 0) 0 n = (min (1 + m) n - min 1 n) + (min 64 n - min 56 n)
  | 0 => by simp [cnt]
  | n + 1 => by
    rw [cnt, cnt_0 m hm n, Nat.zero_add]
    have e : shQ m 0 n = (decide (1 ≤ n ∧ n < 1 + m) || decide (56 ≤ n ∧ n < 64)) := rfl
    rw [e]
    by_cases c1 : 1 ≤ n ∧ n < 1 + m
    · rw [decide_eq_true c1, Bool.true_or, if_pos rfl]; omega
    · rw [decide_eq_false c1, Bool.false_or]
      by_cases c2 : 56 ≤ n ∧ n < 64
      · rw [decide_eq_true c2, if_pos rfl]; omega
      · rw [decide_eq_false c2, if_neg (by decide)]; omega
theorem cnt_1 (m : Nat) : ∀ n, cnt (shQ m 1) 0 n = min 2 n
  | 0 => by simp [cnt]
  | n + 1 => by
    rw [cnt, cnt_1 m n, Nat.zero_add]
    have e : shQ m 1 n = decide (n < 2) := rfl
    rw [e]
    by_cases c1 : n < 2
    · rw [decide_eq_true c1, if_pos rfl]; omega
    · rw [decide_eq_false c1, if_neg (by decide)]; omega
theorem cnt_2 (m : Nat) : ∀ n, cnt (shQ m 2) 0 n = min 1 n
  | 0 => by simp [cnt]
  | n + 1 => by
    rw [cnt, cnt_2 m n, Nat.zero_add]
    have e : shQ m 2 n = decide (n = 0) := rfl
    rw [e]
    by_cases c1 : n = 0
    · rw [decide_eq_true c1, if_pos rfl]; omega
    · rw [decide_eq_false c1, if_neg (by decide)]; omega
theorem shQ_cnt (m : Nat) (hm : m ≤ 28) : cntN (shQ m) = m + 12 := by
  unfold cntN
  rw [cnt_0 m hm, cnt_1, cnt_2, if_pos (show shQ m 3 0 = true from rfl)]
  omega
theorem shQ_low (m k : Nat) (h1 : 1 ≤ k) (h : k < 1 + m) (hm : m ≤ 28) : ∀ l, l ≤ 2 → shQ m l (k / 32 ^ l) = true := by
  intro l hl
  match l, hl with
  | 0, _ => rw [Nat.pow_zero, Nat.div_one]; show (decide (1 ≤ k ∧ k < 1 + m) || _) = true; rw [decide_eq_true ⟨h1, h⟩]; rfl
  | 1, _ => rw [Nat.pow_one]; exact decide_eq_true (by omega)
  | 2, _ => rw [show 32 ^ 2 = 1024 from rfl]; exact decide_eq_true (by omega)
  | l + 3, h => omega
theorem shQ_high (m k : Nat) (h1 : 56 ≤ k) (h : k < 64) : ∀ l, l ≤ 2 → shQ m l (k / 32 ^ l) = true := by
  intro l hl
  match l, hl with
  | 0, _ => rw [Nat.pow_zero, Nat.div_one]; show (decide (1 ≤ k ∧ k < 1 + m) || decide (56 ≤ k ∧ k < 64)) = true; rw [decide_eq_true (show 56 ≤ k ∧ k < 64 from ⟨h1, h⟩)]; simp
  | 1, _ => rw [Nat.pow_one]; exact decide_eq_true (by omega)
  | 2, _ => rw [show 32 ^ 2 = 1024 from rfl]; exact decide_eq_true (by omega)
  | l + 3, h => omega
/-- a root that was just taken -/
theorem FI.start {F m : Nat} {s : PS} {R : Roles} (g : SG F s R) (hm : m ≤ 28) (hl : m + 12 ≤ s.left F) : FI F (s.top F) (shQ m) (s.take F) (setR R (s.top F) (s.top F, 3, 0)) ∧ ∀ j, hasB F (setR R (s.top F) (s.top F, 3, 0)) (s.top F) 0 j = false := by
  have hc : 0 < s.left F := by omega
  obtain ⟨gr, hn, hno, htop⟩ := new_grow g.wf hc
  obtain ⟨g1, r1, _⟩ := good_new g hc
  have hcnt := gr.cnt
  have hz : hasB F R (s.top F) = fun _ _ => false := by funext l i; exact hno l i
  rw [hz, cntN_none] at hcnt
  have hset : ∀ l j, hasB F (setR R (s.top F) (s.top F, 3, 0)) (s.top F) l j = setP (hasB F R (s.top F)) 3 0 l j := fun l j => by
    exact congrFun (congrFun htop l) j
  refine ⟨⟨g1, r1, fun l j hj => ?_, by rw [shQ_cnt m hm, hcnt]; omega⟩, fun j => ?_⟩
  · rw [hset, hz] at hj
    unfold setP at hj
    by_cases c : l = 3 ∧ j = 0
    · obtain ⟨rfl, rfl⟩ := c
      rfl
    · rw [if_neg c] at hj
      cases hj
  · rw [hset, hz]
    unfold setP
    rw [if_neg (by omega)]
end Go.Proofs.Ytijooajhjcfneaa
