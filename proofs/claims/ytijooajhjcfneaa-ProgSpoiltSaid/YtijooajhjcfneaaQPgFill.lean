/-
  Pages of a program, in plain numbers: a page more, and bytes put into it.
-/
import Derived.Test.YtijooajhjcfneaaQPgNeed
namespace Go.Proofs.Ytijooajhjcfneaa
open Go.RowKit

/-- while a space is being filled: Q is what it will be -/
structure FI (F root : Nat) (Q : Nat → Nat → Bool) (s : PS) (R : Roles) : Prop where
  g : SG F s R
  r : R root = some (root, 3, 0)
  q : ∀ l j, hasB F R root l j = true → Q l j = true
  n : cntN Q ≤ s.left F + cntN (hasB F R root)
/-- a page that was mapped: its frame g, its entry in the table t -/
structure PgAt (F root i bits : Nat) (s ms : PS) (R R' : Roles) (t g : Nat) : Prop where
  map : mapS F s root i bits = (ms, 0)
  tlt : t < F
  glt : g < F
  leaf : tbLeaf ms.V F root (i * 256) = some (t * 256 + 8 * pt i 0)
  ent : ent ms.V t (pt i 0) = g * 1024 + bits
  lf : leafF ms.V root i = g
  role : R' g = some (root, 0, i)
  trole : R' t = some (root, 1, i / 32)
  zero : ∀ a, a / 256 = g → ms.V a = 0
  has : ∃ l, l ≤ 2 ∧ ∀ l' i', hasB F R' root l' i' = (hasB F R root l' i' || (decide (l' ≤ l) && decide (i' = i / 32 ^ l')))
  grow : Grow F s R ms R' root
/-- bytes of a page turn nothing else -/
theorem put_good {F root i g n : Nat} {ms : PS} {R' : Roles} {U : Nat → Nat} (h : SG F ms R') (hg : R' g = some (root, 0, i)) (hn : n ≤ 256) : SG F ⟨ms.Fr, putV ms.V (g * 256) n U⟩ R' := by
  refine ⟨h.wf.congr fun f r l j hf a ha => ?_, h.full⟩
  have hne : ¬ (g * 256 ≤ a ∧ a < g * 256 + n) := by
    intro hc
    have : a / 256 = g := by omega
    rw [← ha, this, hg] at hf
    cases hf
  show (if g * 256 ≤ a ∧ a < g * 256 + n then _ else ms.V a) = ms.V a
  exact if_neg hne
theorem FI.step {F root i bits : Nat} {Q : Nat → Nat → Bool} {s : PS} {R : Roles} (hF : F ≤ 256) (h : FI F root Q s R) (hi : i < 32768) (hb : bits < 32) (hb1 : bits % 2 = 1) (hnew : hasB F R root 0 i = false) (hq : ∀ l, l ≤ 2 → Q l (i / 32 ^ l) = true) :
    ∃ ms R' t g, PgAt F root i bits s ms R R' t g ∧ ∀ (n : Nat) (U : Nat → Nat), n ≤ 256 → FI F root Q ⟨ms.Fr, putV ms.V (g * 256) n U⟩ R' := by
  obtain ⟨dl, dno⟩ := deep_no h.g.wf h.r hi hnew
  have hlack : (deep s.V i 2 root).1 + 1 ≤ s.left F := by
    have k := cntN_lack hi dl dno h.q (fun l hl => hq l (by omega))
    have := h.n
    omega
  rcases mapS_cases hF h.g.wf h.g.full h.r hi hb hb1 with ⟨_, h2⟩ | ⟨_, _, h3⟩ | ⟨_, h2, R', l, hl, m, hfull, _, _⟩
  · rw [hnew] at h2; cases h2
  · exact absurd h3 (Nat.not_lt.2 hlack)
  · obtain ⟨ms, hms⟩ : ∃ ms, (mapS F s root i bits).1 = ms := ⟨_, rfl⟩
    have hmap : mapS F s root i bits = (ms, 0) := Prod.ext hms h2
    rw [hms] at m
    have hR' := m.grow.wf
    have hp0 : i / 32 ^ 0 = i := by rw [Nat.pow_zero, Nat.div_one]
    have hhas : hasB F R' root 0 i = true := by rw [m.has, hp0, decide_eq_true (Nat.zero_le l)]; simp
    obtain ⟨g, hg⟩ := (hasB_iff hR'.lt _ _ _).1 hhas
    obtain ⟨t, ht, q1, q2, q3⟩ := leaf_at hR' (m.grow.sub _ _ h.r) hi hg
    have hg0 : R g = none ∧ (∀ a, a / 256 = g → ms.V a = 0) ∧ ∃ t', R' t' = some (root, 1, i / 32) ∧ ent ms.V t' (i % 32) = g * 1024 + bits := by
      rcases m.fresh g i hg with e | ⟨_, e1, e2, e3⟩
      · have := (hasB_iff h.g.wf.lt root 0 i).2 ⟨g, e⟩
        rw [hnew] at this
        cases this
      · exact ⟨e1, e2, e3⟩
    obtain ⟨_, hz, t', ht', he'⟩ := hg0
    have htt : t = t' := hR'.inj _ _ _ ht ht'
    subst htt
    have hpt : pt i 0 = i % 32 := by unfold pt; rw [Nat.pow_zero, Nat.div_one]
    refine ⟨ms, R', t, g, ⟨hmap, hR'.lt _ _ ht, hR'.lt _ _ hg, q1, by rw [hpt]; exact he', by unfold leafF; rw [q2]; exact (kid_some q3).2, hg, ht, hz, ⟨l, hl, m.has⟩, m.grow⟩, fun n U hn => ⟨put_good ⟨hR', hfull⟩ hg hn, m.grow.sub _ _ h.r, fun l' j hj => ?_, ?_⟩⟩
    · rw [m.has] at hj
      rw [Bool.or_eq_true] at hj
      rcases hj with hj | hj
      · exact h.q _ _ hj
      · rw [Bool.and_eq_true] at hj
        have h5 := hj
        have h6 := of_decide_eq_true h5.1
        have h7 := of_decide_eq_true h5.2
        rw [h7]
        exact hq l' (by omega)
    · have e : (⟨ms.Fr, putV ms.V (g * 256) n U⟩ : PS).left F = ms.left F := rfl
      rw [e, m.grow.cnt]
      exact h.n
end Go.Proofs.Ytijooajhjcfneaa
