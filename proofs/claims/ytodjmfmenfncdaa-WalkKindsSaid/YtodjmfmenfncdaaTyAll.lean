/-
  walk.Leaf and walk.Walk whatever they are asked of: one contract each.
-/
import Derived.Test.YtodjmfmenfncdaaTyWalk2
namespace Go.Proofs.Ytodjmfmenfncdaa
open Go.RowKit

def errV (c : Int) : Value := .tuple #[.int .u64 0, .int .i64 c]
def lfR (V : Nat → Nat) (F : Nat) (root : Int) (at_ : Nat) : Value :=
  if root < 0 ∨ (F : Int) ≤ root then errV 1 else if 8388608 ≤ at_ then errV 3 else lfVal (tbLeaf V F root.toNat at_)
def wkR (V : Nat → Nat) (F : Nat) (root : Int) (at_ : Nat) (acc : Int) : Value :=
  if root < 0 ∨ (F : Int) ≤ root ∨ acc < 1 ∨ 3 < acc then errV 1 else if 8388608 ≤ at_ then errV 3 else lfVal (tbWalk V F root.toNat at_ acc.toNat)

theorem py_same {S : Nat → Prop} {P : Program} {f : FuncId} {args : Array Value} {w : World} {p F : Nat} {V : Nat → Nat} {v : Value} (h : PY S w p F V) (c : Calls P f args w fun e w' => e = .returned v ∧ w = w') : Calls P f args w (StepY S w p F V v) :=
  c.mono fun _ _ ⟨h1, h2⟩ => by subst h2; exact ⟨h1, h, Chg.refl _ _⟩

theorem lf_all (S : Nat → Prop) (w : World) (p F : Nat) (V : Nat → Nat) (h : PY S w p F V) (hF : F ≤ 256) (root : Int) (at_ : Nat) :
    Calls Try.prog 14 #[.pointer (some ⟨p, 0, none⟩), .int .i64 root, .int .u64 at_] w (StepY S w p F V (lfR V F root at_)) := by
  unfold lfR
  by_cases h1 : root < 0 ∨ (F : Int) ≤ root
  · rw [if_pos h1]
    exact py_same h (leaf_root S w p F V h root h1 at_)
  · rw [if_neg h1]
    obtain ⟨n, rfl⟩ := Int.eq_ofNat_of_zero_le (show 0 ≤ root by omega)
    by_cases h2 : 8388608 ≤ at_
    · rw [if_pos h2]
      exact py_same h (leaf_beyond S w p F V h n (by omega) at_ h2)
    · rw [if_neg h2, Int.toNat_natCast]
      exact walk_leaf S w p F V h hF n (by omega) at_ (by omega)
theorem wk_all (S : Nat → Prop) (w : World) (p F : Nat) (V : Nat → Nat) (h : PY S w p F V) (hF : F ≤ 256) (root : Int) (at_ : Nat) (acc : Int) :
    Calls Try.prog 13 #[.pointer (some ⟨p, 0, none⟩), .int .i64 root, .int .u64 at_, .int .i64 acc] w (StepY S w p F V (wkR V F root at_ acc)) := by
  unfold wkR
  by_cases h1 : root < 0 ∨ (F : Int) ≤ root
  · rw [if_pos (by omega)]
    exact py_same h (wwalk_root S w p F V h root h1 at_ acc)
  · obtain ⟨n, rfl⟩ := Int.eq_ofNat_of_zero_le (show 0 ≤ root by omega)
    by_cases h3 : acc < 1 ∨ 3 < acc
    · rw [if_pos (by omega)]
      exact py_same h (wwalk_acc S w p F V h n (by omega) at_ acc (by omega))
    · rw [if_neg (by omega)]
      by_cases h2 : 8388608 ≤ at_
      · rw [if_pos h2]
        rcases (show acc = 1 ∨ acc = 2 ∨ acc = 3 by omega) with rfl | rfl | rfl
        · exact py_same h (wwalk_beyond1 S w p F V h hF n (by omega) at_ h2)
        · exact py_same h (wwalk_beyond2 S w p F V h hF n (by omega) at_ h2)
        · exact py_same h (wwalk_beyond3 S w p F V h hF n (by omega) at_ h2)
      · rw [if_neg h2, Int.toNat_natCast]
        rcases (show acc = 1 ∨ acc = 2 ∨ acc = 3 by omega) with rfl | rfl | rfl
        · exact wwalk_1 S w p F V h hF n (by omega) at_ (by omega)
        · exact wwalk_2 S w p F V h hF n (by omega) at_ (by omega)
        · exact wwalk_3 S w p F V h hF n (by omega) at_ (by omega)

/-- addresses of one page -/
theorem leaf_page (V : Nat → Nat) (F root a b : Nat) (h : a / 256 = b / 256) : tbLeaf V F root a = tbLeaf V F root b := by
  have h1 : a / 8192 = b / 8192 := by rw [show 8192 = 256 * 32 from rfl, ← Nat.div_div_eq_div_mul, ← Nat.div_div_eq_div_mul, h]
  have h2 : a / 262144 = b / 262144 := by rw [show 262144 = 256 * 1024 from rfl, ← Nat.div_div_eq_div_mul, ← Nat.div_div_eq_div_mul, h]
  unfold tbLeaf
  rw [h, h1, h2]
theorem wk_split (V : Nat → Nat) (F : Nat) (root : Int) (a b : Nat) (acc : Int) (h : a / 256 = b / 256) :
    (∃ c : Int, (c = 1 ∨ c = 3) ∧ wkR V F root a acc = errV c ∧ wkR V F root b acc = errV c) ∨
    (∃ f : Nat, f < F ∧ wkR V F root a acc = .tuple #[.int .u64 ((f * 256 + a % 256 : Nat) : Int), .int .i64 0] ∧ wkR V F root b acc = .tuple #[.int .u64 ((f * 256 + b % 256 : Nat) : Int), .int .i64 0]) := by
  unfold wkR
  by_cases h1 : root < 0 ∨ (F : Int) ≤ root ∨ acc < 1 ∨ 3 < acc
  · rw [if_pos h1, if_pos h1]
    exact .inl ⟨1, .inl rfl, rfl, rfl⟩
  · rw [if_neg h1, if_neg h1]
    by_cases h2 : 8388608 ≤ a
    · rw [if_pos h2, if_pos (by omega)]
      exact .inl ⟨3, .inr rfl, rfl, rfl⟩
    · rw [if_neg h2, if_neg (by omega)]
      have hp := leaf_page V F root.toNat a b h
      cases hl : tbLeaf V F root.toNat a with
      | none => exact .inl ⟨3, .inr rfl, by rw [wk_none hl]; rfl, by rw [wk_none (hp ▸ hl)]; rfl⟩
      | some x =>
        rw [wk_some hl, wk_some (hp ▸ hl)]
        generalize entV V x = y
        by_cases hm : tbMay F y acc.toNat = true
        · rw [if_pos hm, if_pos hm]
          have hlt : y / 1024 < F := by unfold tbMay at hm; exact (of_decide_eq_true hm).2.2.2
          exact .inr ⟨y / 1024, hlt, rfl, rfl⟩
        · rw [if_neg hm, if_neg hm]
          exact .inl ⟨3, .inr rfl, rfl, rfl⟩
end Go.Proofs.Ytodjmfmenfncdaa
