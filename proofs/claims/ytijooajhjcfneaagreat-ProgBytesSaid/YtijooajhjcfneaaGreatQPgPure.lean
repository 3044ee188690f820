/-
  A program's space in plain numbers: all its frames are counted.
-/
import Derived.Test.YtijooajhjcfneaaGreatQPgPages
namespace Go.Proofs.YtijooajhjcfneaaGreat
open Go.RowKit

theorem fl_pure {F root page bits : Nat} {str : ByteArray} {s : PS} {R : Roles} {Q : Nat → Nat → Bool} (hF : F ≤ 256) (f : FI F root Q s R) (hb : bits < 32) (hb1 : bits % 2 = 1) : ∀ many, page + many ≤ 1000 → (∀ k, k < many → hasB F R root 0 (page + k) = false) → (∀ k, k < many → ∀ l, l ≤ 2 → Q l ((page + k) / 32 ^ l) = true) →
    ∃ R', FI F root Q (flN F root page bits str s many) R' ∧ ∀ j, hasB F R' root 0 j = (hasB F R root 0 j || decide (page ≤ j ∧ j < page + many)) := by
  intro many
  induction many with
  | zero => intro _ _ _; exact ⟨R, f, fun j => by rw [decide_eq_false (by omega)]; simp⟩
  | succ k ih =>
    intro hp hnew hq
    obtain ⟨Rk, fk, hk⟩ := ih (by omega) (fun i hi => hnew i (by omega)) (fun i hi => hq i (by omega))
    have hn : hasB F Rk root 0 (page + k) = false := by rw [hk, hnew k (by omega), decide_eq_false (by omega)]; rfl
    obtain ⟨ms, R', t, g, pa, nx⟩ := fk.step hF (by omega) hb hb1 hn (hq k (by omega))
    have e : flN F root page bits str s (k + 1) = ⟨ms.Fr, putV ms.V (g * 256) (chB str k).size (byt (chB str k))⟩ := flS_at pa _
    rw [e]
    refine ⟨R', nx _ _ (chB_size _ _), fun j => ?_⟩
    obtain ⟨l, _, hl⟩ := pa.has
    rw [hl, hk, Nat.pow_zero, Nat.div_one, decide_eq_true (Nat.zero_le l), Bool.true_and, Bool.or_assoc]
    congr 1
    rw [← Bool.decide_or]
    apply Bool.eq_iff_iff.2
    rw [decide_eq_true_eq, decide_eq_true_eq]
    omega
theorem FI.startQ {F : Nat} {s : PS} {R : Roles} {Q : Nat → Nat → Bool} (g : SG F s R) (hQ : Q 3 0 = true) (hc : 0 < s.left F) (hl : cntN Q ≤ s.left F) : FI F (s.top F) Q (s.take F) (setR R (s.top F) (s.top F, 3, 0)) ∧ ∀ j, hasB F (setR R (s.top F) (s.top F, 3, 0)) (s.top F) 0 j = false := by
  obtain ⟨gr, hn, hno, htop⟩ := new_grow g.wf hc
  obtain ⟨g1, r1, _⟩ := good_new g hc
  have hcnt := gr.cnt
  have hz : hasB F R (s.top F) = fun _ _ => false := by funext l i; exact hno l i
  rw [hz, cntN_none] at hcnt
  have hset : ∀ l j, hasB F (setR R (s.top F) (s.top F, 3, 0)) (s.top F) l j = setP (hasB F R (s.top F)) 3 0 l j := fun l j => by
    exact congrFun (congrFun htop l) j
  refine ⟨⟨g1, r1, fun l j hj => ?_, by rw [hcnt]; omega⟩, fun j => ?_⟩
  · rw [hset, hz] at hj
    unfold setP at hj
    by_cases c : l = 3 ∧ j = 0
    · obtain ⟨rfl, rfl⟩ := c
      exact hQ
    · rw [if_neg c] at hj
      cases hj
  · rw [hset, hz]
    unfold setP
    rw [if_neg (by omega)]
/-- the whole of a program's space -/
theorem load_pure {F : Nat} {s : PS} {R : Roles} {x : Prg} {a b m : Nat} {Q : Nat → Nat → Bool} (hF : F ≤ 256) (g : SG F s R) (hx : x.may = true) (ha : a = pagesN x.text.size) (hb : b = pagesN (x.data.size + x.bss.toNat)) (hm : m = a + b) (hc : 0 < s.left F) (hl : cntN Q ≤ s.left F)
    (hq : ∀ l j, shQ m l j = true → Q l j = true) : ∃ R', FI F (s.top F) Q (loadS F s x a b) R' ∧ ∀ j, hasB F R' (s.top F) 0 j = shQ m 0 j := by
  obtain ⟨m1, m2, m3, m4, m5, m6, m7, m8, m9, m10⟩ := may_nums hx
  have hm28 : m ≤ 28 := by rw [hm, ha, hb]; unfold pagesN; omega
  obtain ⟨f0, h0⟩ := FI.startQ g (hq 3 0 rfl) hc hl
  obtain ⟨R1, f1, h1⟩ := fl_pure (page := 1) (bits := 27) (str := x.text) hF f0 (by decide) (by decide) a (by omega) (fun k _ => h0 _) (fun k hk l hl => hq _ _ (shQ_low m (1 + k) (by omega) (by omega) hm28 l hl))
  obtain ⟨R2, f2, h2⟩ := fl_pure (page := 1 + a) (bits := 23) (str := x.data) hF f1 (by decide) (by decide) b (by omega) (fun k _ => by rw [h1, h0, decide_eq_false (by omega)]; rfl) (fun k hk l hl => hq _ _ (shQ_low m (1 + a + k) (by omega) (by omega) hm28 l hl))
  obtain ⟨R3, f3, h3⟩ := fl_pure (page := 56) (bits := 23) (str := ⟨#[]⟩) hF f2 (by decide) (by decide) 8 (by omega) (fun k _ => by rw [h2, h1, h0, decide_eq_false (by omega), decide_eq_false (by omega)]; rfl) (fun k hk l hl => hq _ _ (shQ_high m (56 + k) (by omega) (by omega) l hl))
  refine ⟨R3, f3, fun j => ?_⟩
  rw [h3, h2, h1, h0, Bool.false_or, ← Bool.decide_or]
  show _ = (decide (1 ≤ j ∧ j < 1 + m) || decide (56 ≤ j ∧ j < 64))
  congr 1
  apply Bool.eq_iff_iff.2
  rw [decide_eq_true_eq, decide_eq_true_eq]
  omega
/-- as many frames are left and a space's as there are at most -/
theorem left_own_le {F : Nat} {s : PS} {R : Roles} (h : WFS F s R) (r : Nat) : s.left F + cntN (hasB F R r) ≤ F := by
  rw [cntN_own h r]
  unfold PS.left
  have key : ∀ n, n ≤ F → cnt s.Fr 0 n + cnt (ownR R r) 0 n ≤ n := by
    intro n
    induction n with
    | zero => intro _; simp [cnt]
    | succ n ih =>
      intro hn
      have i := ih (by omega)
      rw [cnt, cnt, Nat.zero_add]
      by_cases c : s.Fr n = true
      · have := (h.free n).1 c
        have e : ownR R r n = false := by
          apply Bool.eq_false_iff.2
          intro hc
          obtain ⟨l, j, hj⟩ := ownR_iff.1 hc
          rw [this.2] at hj
          cases hj
        rw [if_pos c, if_neg (by rw [e]; decide)]
        omega
      · rw [if_neg c]
        split <;> omega
  exact key F (Nat.le_refl _)
/-- pages enough to fill a memory of so many frames -/
def shX (m d : Nat) (l j : Nat) : Bool := shQ m l j || (decide (l = 0) && decide (64 ≤ j ∧ j < 64 + d))
theorem cnt_x (m d : Nat) (hm : m ≤ 28) : ∀ n, cnt (shX m d 0) 0 n = cnt (shQ m 0) 0 n + (min (64 + d) n - min 64 n)
  | 0 => by simp [cnt]
  | n + 1 => by
    rw [cnt, cnt, cnt_x m d hm n, Nat.zero_add]
    have e : shX m d 0 n = (shQ m 0 n || decide (64 ≤ n ∧ n < 64 + d)) := by unfold shX; simp
    rw [e]
    by_cases c : 64 ≤ n ∧ n < 64 + d
    · have e0 : shQ m 0 n = false := by
        show (decide (1 ≤ n ∧ n < 1 + m) || decide (56 ≤ n ∧ n < 64)) = false
        rw [decide_eq_false (by omega), decide_eq_false (by omega)]
        rfl
      rw [e0, decide_eq_true c, Bool.false_or, if_pos rfl, if_neg (by decide)]
      omega
    · rw [decide_eq_false c, Bool.or_false]
      omega
theorem shX_high (m d l j : Nat) (hl : l ≠ 0) : shX m d l j = shQ m l j := by unfold shX; rw [decide_eq_false hl]; simp
theorem shX_cnt (m d : Nat) (hm : m ≤ 28) (hd : d ≤ 1000) : cntN (shX m d) = m + 12 + d := by
  have h0 := shQ_cnt m hm
  unfold cntN at h0 ⊢
  have e1 : shX m d 1 = shQ m 1 := by funext j; exact shX_high m d 1 j (by decide)
  have e2 : shX m d 2 = shQ m 2 := by funext j; exact shX_high m d 2 j (by decide)
  have e3 : shX m d 3 0 = shQ m 3 0 := shX_high m d 3 0 (by decide)
  rw [cnt_x m d hm, e1, e2, e3]
  omega
/-- a program's space in a memory that is new: its shape is known whole, and so is what is left -/
theorem load_all {F : Nat} {s : PS} {R : Roles} {x : Prg} {a b m : Nat} (hF : F ≤ 256) (g : SG F s R) (hx : x.may = true) (ha : a = pagesN x.text.size) (hb : b = pagesN (x.data.size + x.bss.toNat)) (hm : m = a + b) (hl : s.left F = F) (hmF : m + 12 ≤ F) :
    ∃ R', FI F (s.top F) (shX m (F - (m + 12))) (loadS F s x a b) R' ∧ (∀ j, hasB F R' (s.top F) 0 j = shQ m 0 j) ∧ (loadS F s x a b).left F = F - (m + 12) ∧ cntN (hasB F R' (s.top F)) = m + 12 := by
  obtain ⟨m1, m2, m3, m4, m5, m6, m7, m8, m9, m10⟩ := may_nums hx
  have hm28 : m ≤ 28 := by rw [hm, ha, hb]; unfold pagesN; omega
  have ha1 : 1 ≤ m := by rw [hm, ha]; unfold pagesN; omega
  have hX := shX_cnt m (F - (m + 12)) hm28 (by omega)
  obtain ⟨R', f, h0⟩ := load_pure (Q := shX m (F - (m + 12))) hF g hx ha hb hm (by omega) (by rw [hX]; omega) (fun l j h => by unfold shX; rw [h]; rfl)
  have hW := f.g.wf
  have hall : hasB F R' (s.top F) = shQ m := by
    funext l j
    match l with
    | 0 => exact h0 j
    | l + 1 =>
      apply Bool.eq_iff_iff.2
      constructor
      · intro h
        have := f.q _ _ h
        rw [shX_high _ _ _ _ (by omega)] at this
        exact this
      · intro h
        have up : ∀ p, shQ m 0 p = true → l + 1 ≤ 3 → hasB F R' (s.top F) (l + 1) (p / 32 ^ (l + 1)) = true := fun p hp hl3 => by
          rw [← h0] at hp
          obtain ⟨f0, hf0⟩ := (hasB_iff hW.lt _ _ _).1 hp
          obtain ⟨y, hy⟩ := hW.anc hf0 (l + 1) (by omega)
          rw [Nat.zero_add] at hy
          exact (hasB_iff hW.lt _ _ _).2 ⟨y, hy⟩
        have p1 : shQ m 0 1 = true := by show (decide (1 ≤ 1 ∧ 1 < 1 + m) || _) = true; rw [decide_eq_true (by omega)]; rfl
        have p56 : shQ m 0 56 = true := by show (_ || decide (56 ≤ 56 ∧ 56 < 64)) = true; rw [decide_eq_true (show 56 ≤ 56 ∧ 56 < 64 by omega)]; simp
        match l, h with
        | 0, h =>
          have hj : j < 2 := of_decide_eq_true h
          have u1 := up 1 p1 (by omega)
          have u56 := up 56 p56 (by omega)
          rw [show 1 / 32 ^ (0 + 1) = 0 from by decide] at u1
          rw [show 56 / 32 ^ (0 + 1) = 1 from by decide] at u56
          rcases (show j = 0 ∨ j = 1 by omega) with rfl | rfl
          · exact u1
          · exact u56
        | 1, h =>
          have hj : j = 0 := of_decide_eq_true h
          have u1 := up 1 p1 (by omega)
          rw [show 1 / 32 ^ (1 + 1) = 0 from by decide] at u1
          rw [hj]; exact u1
        | 2, h =>
          have hj : j = 0 := of_decide_eq_true h
          have u1 := up 1 p1 (by omega)
          rw [show 1 / 32 ^ (2 + 1) = 0 from by decide] at u1
          rw [hj]; exact u1
        | l + 3, h => cases h
  have hc : cntN (hasB F R' (s.top F)) = m + 12 := by rw [hall, shQ_cnt m hm28]
  have h1 := left_own_le hW (s.top F)
  have h2 := f.n
  rw [hX] at h2
  rw [hc] at h1 h2
  exact ⟨R', f, h0, by omega, hc⟩
end Go.Proofs.YtijooajhjcfneaaGreat
