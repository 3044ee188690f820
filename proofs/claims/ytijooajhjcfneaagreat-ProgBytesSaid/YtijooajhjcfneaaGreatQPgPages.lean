/-
  The pages of a space are listed in their order: just those that it has.
-/
import Derived.Test.YtijooajhjcfneaaGreatQPgLoad
namespace Go.Proofs.YtijooajhjcfneaaGreat
open Go.RowKit

theorem pgs_nil : pgs [] = [] := rfl
theorem pgs_append (a b : List (Int × Nat)) : pgs (a ++ b) = pgs a ++ pgs b := by
  unfold pgs
  rw [List.map_append, List.filter_append]
theorem cut_range (s m n : Nat) : List.range' s (m + n) = List.range' s m ++ List.range' (s + m) n := by
  rw [List.range'_append_1]
/-- pages in a span that a space has -/
def spanL (F : Nat) (R : Roles) (root s n : Nat) : List Int := ((List.range' s n).filter fun i => hasB F R root 0 i).map fun i : Nat => (i : Int)
theorem spanL_none {F : Nat} {R : Roles} {root s n : Nat} (h : ∀ i, s ≤ i → i < s + n → hasB F R root 0 i = false) : spanL F R root s n = [] := by
  unfold spanL
  rw [List.filter_eq_nil_iff.2, List.map_nil]
  intro i hi
  obtain ⟨h1, h2⟩ := List.mem_range'_1.1 hi
  rw [h i h1 h2]
  decide
theorem spanL_cut (F : Nat) (R : Roles) (root s m n : Nat) : spanL F R root s (m + n) = spanL F R root s m ++ spanL F R root (s + m) n := by
  unfold spanL
  rw [cut_range, List.filter_append, List.map_append]
theorem pgs_visE {F : Nat} {Fr : Nat → Bool} {V : Nat → Nat} {R : Roles} (h : WF F Fr V R) (root : Nat) : ∀ l t first k, l ≤ 2 → R t = some (root, l + 1, first) → k < 32 → pgs (visE V l t first k) = spanL F R root ((first * 32 + k) * 32 ^ l) (32 ^ l) := by
  intro l
  induction l with
  | zero =>
    intro t first k _ ht hk
    rw [Nat.pow_zero, Nat.mul_one]
    rcases odd_cases V t k with e | e
    · rw [visE_no e, pgs_nil, spanL_none]
      intro i h1 h2
      obtain rfl : i = first * 32 + k := by omega
      apply Bool.eq_false_iff.2
      intro hc
      obtain ⟨g, hg⟩ := (hasB_iff h.lt _ _ _).1 hc
      obtain ⟨f', bits, a1, a2, a3, a4, _⟩ := h.above hg (by omega)
      rw [show (first * 32 + k) / 32 = first from by omega] at a1
      rw [show (first * 32 + k) % 32 = k from by omega] at a2
      obtain rfl := h.inj _ _ _ a1 ht
      generalize ent V f' k = z at *
      omega
    · rw [visE_page e]
      have hc := (h.kid ht hk (kid_of_odd e)).1
      have hb := (hasB_iff h.lt root 0 (first * 32 + k)).2 ⟨_, hc⟩
      unfold spanL
      rw [show List.range' (first * 32 + k) 1 = [first * 32 + k] from rfl, List.filter_cons_of_pos hb]
      show (List.filter _ [(((first * 32 + k : Nat) : Int))]) = _
      rw [List.filter_cons_of_pos (by rw [decide_eq_true_eq]; exact Int.natCast_nonneg _)]
      rfl
  | succ l ih =>
    intro t first k hl ht hk
    rcases odd_cases V t k with e | e
    · rw [visE_no e, pgs_nil, spanL_none]
      intro i h1 h2
      have hi : i / 32 ^ (l + 1) = first * 32 + k := by
        rw [Nat.div_eq_iff (Nat.pow_pos (by decide))]
        omega
      apply Bool.eq_false_iff.2
      intro hc
      obtain ⟨g0, hg0⟩ := (hasB_iff h.lt _ _ _).1 hc
      obtain ⟨g, hg⟩ := h.anc hg0 (l + 1) (by omega)
      rw [hi, Nat.zero_add] at hg
      obtain ⟨f', bits, a1, a2, a3, a4, _⟩ := h.above hg (by omega)
      rw [show (first * 32 + k) / 32 = first from by omega] at a1
      rw [show (first * 32 + k) % 32 = k from by omega] at a2
      obtain rfl := h.inj _ _ _ a1 ht
      generalize ent V f' k = z at *
      omega
    · rw [visE_table e, pgs_append]
      have hc := (h.kid ht hk (kid_of_odd e)).1
      have htl : pgs [((-1 : Int), ent V t k)] = [] := rfl
      rw [htl, List.append_nil]
      have key : ∀ n, n ≤ 32 → pgs (visT V l (ent V t k / 1024) (first * 32 + k) n) = spanL F R root ((first * 32 + k) * 32 ^ (l + 1)) (n * 32 ^ l) := by
        intro n
        induction n with
        | zero => intro _; rw [Nat.zero_mul]; rfl
        | succ n ihn =>
          intro hn
          rw [visT_succ, pgs_append, ihn (by omega), ih _ _ n (by omega) hc (by omega), Nat.succ_mul, spanL_cut]
          congr 2
          rw [Nat.pow_succ, Nat.add_mul, ← Nat.mul_assoc, Nat.mul_right_comm (first * 32 + k) (32 ^ l) 32]
      rw [key 32 (Nat.le_refl _), Nat.pow_succ, Nat.mul_comm 32 (32 ^ l)]
theorem pagesL_span {F : Nat} {Fr : Nat → Bool} {V : Nat → Nat} {R : Roles} (h : WF F Fr V R) {root : Nat} (hr : R root = some (root, 3, 0)) : pagesL V root = spanL F R root 0 32768 := by
  have key : ∀ n, n ≤ 32 → pgs (visT V 2 root 0 n) = spanL F R root 0 (n * 32 ^ 2) := by
    intro n
    induction n with
    | zero => intro _; rfl
    | succ n ihn =>
      intro hn
      rw [visT_succ, pgs_append, ihn (by omega), pgs_visE h root 2 root 0 n (Nat.le_refl _) hr (by omega), Nat.succ_mul, spanL_cut]
      congr 2
      omega
  exact key 32 (Nat.le_refl _)
/-- the pages of a program's space -/
def progL (m : Nat) : List Int := ((List.range' 0 64).filter fun i => shQ m 0 i).map fun i : Nat => (i : Int)
theorem pagesL_prog {F m : Nat} {Fr : Nat → Bool} {V : Nat → Nat} {R : Roles} (h : WF F Fr V R) {root : Nat} (hr : R root = some (root, 3, 0)) (hm : m ≤ 28) (hs : ∀ j, hasB F R root 0 j = shQ m 0 j) : pagesL V root = progL m := by
  rw [pagesL_span h hr, show (32768 : Nat) = 64 + 32704 from rfl, spanL_cut, spanL_none (s := 0 + 64), List.append_nil]
  · unfold spanL progL
    congr 2
    funext i
    exact hs i
  · intro i h1 h2
    rw [hs]
    show (decide (1 ≤ i ∧ i < 1 + m) || decide (56 ≤ i ∧ i < 64)) = false
    rw [decide_eq_false (by omega), decide_eq_false (by omega)]
    rfl
theorem filter_cnt (P : Nat → Bool) : ∀ n, ((List.range' 0 n).filter P).length = cnt P 0 n
  | 0 => rfl
  | n + 1 => by
    rw [cut_range, List.filter_append, List.length_append, filter_cnt P n, Nat.zero_add, show List.range' n 1 = [n] from rfl, cnt, Nat.zero_add]
    congr 1
    cases h : P n
    · rw [List.filter_cons_of_neg (by rw [h]; decide)]; rfl
    · rw [List.filter_cons_of_pos h]; rfl
theorem progL_len (m : Nat) (hm : m ≤ 28) : (progL m).length = m + 8 := by
  unfold progL
  rw [List.length_map, filter_cnt, cnt_0 m hm]
  omega
theorem progL_2 : progL 2 = [1, 2, 56, 57, 58, 59, 60, 61, 62, 63] := by decide +kernel
end Go.Proofs.YtijooajhjcfneaaGreat
