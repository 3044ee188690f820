/-
  Several texts in one: SpLaw7, SpEach2, SpCopy.
-/
import Derived.Test.YtijooajhjcfneaaGreatG9
import Derived.Laws.EntriesVeiled
namespace Go.Proofs.YtijooajhjcfneaaGreat
open Go.RowKit

theorem tbGo_kid {F : Nat} {Fr : Nat → Bool} {V : Nat → Nat} {R : Roles} (h : WF F Fr V R) {t r l i k g : Nat} (ht : R t = some (r, l + 1, i)) (hl : 0 < l) (hk : k < 32) (hg : kid V t k = some g) : tbGo F (ent V t k) = some g := by
  obtain ⟨h1, bits, h2, h3, h4, h5⟩ := h.kid ht hk hg
  have hgF := h.lt _ _ h1
  have hb := h5 hl
  rw [h2, hb]
  unfold tbGo
  rw [if_neg (by omega)]
  congr 1
  omega
theorem tbLeaf_of {V : Nat → Nat} {F root at_ a b i2 i1 i0 : Nat} (p2 : at_ / 262144 % 32 = i2) (p1 : at_ / 8192 % 32 = i1) (p0 : at_ / 256 % 32 = i0) (g2 : tbGo F (ent V root i2) = some a) (g1 : tbGo F (ent V a i1) = some b) : tbLeaf V F root at_ = some (b * 256 + 8 * i0) := by
  unfold ent at g2 g1
  unfold tbLeaf
  rw [p2, p1, p0, g2, Option.bind_some, g1, Option.map_some]
theorem pts (page : Nat) : page * 256 / 262144 % 32 = pt page 2 ∧ page * 256 / 8192 % 32 = pt page 1 ∧ page * 256 / 256 % 32 = pt page 0 := by
  unfold pt
  refine ⟨?_, ?_, ?_⟩
  · rw [show 32 ^ 2 = 1024 from rfl]; omega
  · rw [Nat.pow_one]; omega
  · rw [Nat.pow_zero]; omega
theorem kids_of {F : Nat} {Fr : Nat → Bool} {V : Nat → Nat} {R : Roles} (h : WF F Fr V R) {t r l page g : Nat} (hl : l < 3) (ht : R t = some (r, l + 1, page / 32 ^ (l + 1))) (hg : R g = some (r, l, page / 32 ^ l)) : kid V t (pt page l) = some g :=
  h.kid_of ht hl (pt_lt _ _) (by rw [pt_join]; exact hg)
theorem anc_of {F : Nat} {Fr : Nat → Bool} {V : Nat → Nat} {R : Roles} (h : WF F Fr V R) {g r page : Nat} (hg : R g = some (r, 0, page)) (l : Nat) (hl : l ≤ 3) : ∃ f, R f = some (r, l, page / 32 ^ l) := by
  obtain ⟨f, hf⟩ := h.anc hg l (by omega)
  rw [Nat.zero_add] at hf
  exact ⟨f, hf⟩
/-- where a page's entry stands -/
theorem leaf_at {F : Nat} {s : PS} {R : Roles} (h : WFS F s R) {root page g : Nat} (hr : R root = some (root, 3, 0)) (hp : page < 32768) (hg : R g = some (root, 0, page)) :
    ∃ b, R b = some (root, 1, page / 32) ∧ tbLeaf s.V F root (page * 256) = some (b * 256 + 8 * pt page 0) ∧ deep s.V page 2 root = (0, b) ∧ kid s.V b (pt page 0) = some g := by
  have h0 : page / 32 ^ 0 = page := by rw [Nat.pow_zero, Nat.div_one]
  have h1 : page / 32 ^ (0 + 1) = page / 32 := by rw [Nat.zero_add, Nat.pow_one]
  have h3 : page / 32 ^ (2 + 1) = 0 := Nat.div_eq_of_lt (by omega)
  obtain ⟨b, hb⟩ := anc_of h hg (0 + 1) (by omega)
  obtain ⟨a, ha⟩ := anc_of h hg (1 + 1) (by omega)
  have k2 : kid s.V root (pt page (1 + 1)) = some a := kids_of (l := 1 + 1) h (by omega) (by rw [h3]; exact hr) ha
  have k1 : kid s.V a (pt page (0 + 1)) = some b := kids_of (l := 0 + 1) h (by omega) ha hb
  have k0 : kid s.V b (pt page 0) = some g := kids_of (l := 0) h (by omega) hb (by rw [h0]; exact hg)
  have g2 := tbGo_kid (l := 1 + 1) h hr (by omega) (pt_lt _ _) k2
  have g1 := tbGo_kid (l := 0 + 1) h ha (by omega) (pt_lt _ _) k1
  obtain ⟨p2, p1, p0⟩ := pts page
  have d2 : deep s.V page (1 + 1) root = deep s.V page (0 + 1) a := deep_some (l := 0 + 1) k2
  have d1 : deep s.V page (0 + 1) a = deep s.V page 0 b := deep_some (l := 0) k1
  have d0 : deep s.V page 0 b = (0, b) := rfl
  rw [h1] at hb
  exact ⟨b, hb, tbLeaf_of p2 p1 p0 g2 g1, d2.trans (d1.trans d0), k0⟩
/-- what a page lacks -/
theorem deep_no {F : Nat} {s : PS} {R : Roles} (h : WFS F s R) {r page : Nat} (hr : R r = some (r, 3, 0)) (hp : page < 32768) (hn : hasB F R r 0 page = false) : (deep s.V page 2 r).1 ≤ 2 ∧ ∀ l', l' ≤ (deep s.V page 2 r).1 → hasB F R r l' (page / 32 ^ l') = false := by
  have h3 : page / 32 ^ (2 + 1) = 0 := Nat.div_eq_of_lt (by omega)
  obtain ⟨d1, d2, d3⟩ := deep_wf h page r 2 r (by rw [h3]; exact hr)
  have hlt := h.lt
  generalize (deep s.V page 2 r).1 = l at *
  generalize (deep s.V page 2 r).2 = t at *
  have hp0 : page / 32 ^ 0 = page := by rw [Nat.pow_zero, Nat.div_one]
  refine ⟨d1, ?_⟩
  have top : ∀ g, R g ≠ some (r, l, page / 32 ^ l) := fun g hg => by
    by_cases e : l = 0
    · subst e
      rw [hp0] at hg
      have := (hasB_iff hlt r 0 page).2 ⟨g, hg⟩
      rw [hn] at this; cases this
    · have hk := d3 e
      rw [← pt_join] at hg
      rw [h.kid_of d2 (by omega) (pt_lt _ _) hg] at hk
      cases hk
  have down : ∀ n l', l' + n = l → ∀ g, R g ≠ some (r, l', page / 32 ^ l') := by
    intro n
    induction n with
    | zero => intro l' e g hg; obtain rfl : l' = l := by omega
              exact top g hg
    | succ n ih => intro l' e g hg
                   obtain ⟨f', _, a, _⟩ := h.above hg (by omega)
                   rw [← pow_step] at a
                   exact ih (l' + 1) (by omega) f' a
  intro l' hl'
  cases hh : hasB F R r l' (page / 32 ^ l') with
  | false => rfl
  | true => obtain ⟨g, hg⟩ := (hasB_iff hlt _ _ _).1 hh; exact absurd hg (down (l - l') l' (by omega) g)

def addP (P : Nat → Nat → Bool) (page : Nat) : Nat → Nat → Nat → Bool
  | 0 => setP P 0 (page / 32 ^ 0)
  | n + 1 => setP (addP P page n) (n + 1) (page / 32 ^ (n + 1))
theorem addP_high (P : Nat → Nat → Bool) (page : Nat) : ∀ n l, n < l → addP P page n l = P l
  | 0, l, h => setP_other _ _ _ _ (by omega)
  | n + 1, l, h => by rw [addP, setP_other _ _ _ _ (by omega)]; exact addP_high P page n l (by omega)
theorem addP_le {P Q : Nat → Nat → Bool} {page : Nat} (hPQ : ∀ l i, P l i = true → Q l i = true) : ∀ n, (∀ l, l ≤ n → Q l (page / 32 ^ l) = true) → ∀ l i, addP P page n l i = true → Q l i = true
  | 0, hq, l, i, h => by
    have h' : setP P 0 (page / 32 ^ 0) l i = true := h
    unfold setP at h'
    by_cases c : l = 0 ∧ i = page / 32 ^ 0
    · rw [c.1, c.2]; exact hq 0 (Nat.le_refl _)
    · rw [if_neg c] at h'; exact hPQ l i h'
  | n + 1, hq, l, i, h => by
    have h' : setP (addP P page n) (n + 1) (page / 32 ^ (n + 1)) l i = true := h
    unfold setP at h'
    by_cases c : l = n + 1 ∧ i = page / 32 ^ (n + 1)
    · rw [c.1, c.2]; exact hq (n + 1) (Nat.le_refl _)
    · rw [if_neg c] at h'; exact addP_le hPQ n (fun l hl => hq l (by omega)) l i h'
theorem pow_lts (page : Nat) (hp : page < 32768) : page / 32 ^ 0 < 32768 ∧ page / 32 ^ 1 < 1024 ∧ page / 32 ^ 2 < 32 := by
  refine ⟨?_, ?_, ?_⟩
  · rw [Nat.pow_zero, Nat.div_one]; exact hp
  · rw [Nat.pow_one]; omega
  · rw [show 32 ^ 2 = 1024 from rfl]; omega
theorem addP_cnt {P : Nat → Nat → Bool} {page : Nat} (hp : page < 32768) : ∀ n, n ≤ 2 → (∀ l, l ≤ n → P l (page / 32 ^ l) = false) → cntN (addP P page n) = cntN P + (n + 1)
  | 0, _, hf => by
    obtain ⟨q0, q1, q2⟩ := pow_lts page hp
    exact cntN_set P 0 (page / 32 ^ 0) (hf 0 (Nat.le_refl _)) (by omega) (by omega) (by omega) (fun _ => q0) (by omega)
  | n + 1, hn, hf => by
    obtain ⟨q0, q1, q2⟩ := pow_lts page hp
    have ih := addP_cnt hp n (by omega) (fun l hl => hf l (by omega))
    have e : addP P page n (n + 1) (page / 32 ^ (n + 1)) = false := by rw [addP_high P page n (n + 1) (by omega)]; exact hf (n + 1) (Nat.le_refl _)
    have c := cntN_set (addP P page n) (n + 1) (page / 32 ^ (n + 1)) e (fun h => by omega) (fun h => by rw [h]; exact q2) (fun h => by rw [h]; exact q1) (fun h => by omega) (by omega)
    show cntN (setP (addP P page n) (n + 1) (page / 32 ^ (n + 1))) = _
    rw [c, ih, Nat.add_assoc]
theorem cntN_lack {P Q : Nat → Nat → Bool} {page n : Nat} (hp : page < 32768) (hn : n ≤ 2) (hf : ∀ l, l ≤ n → P l (page / 32 ^ l) = false) (hPQ : ∀ l i, P l i = true → Q l i = true) (hq : ∀ l, l ≤ n → Q l (page / 32 ^ l) = true) : cntN P + (n + 1) ≤ cntN Q := by
  rw [← addP_cnt hp n hn hf]
  exact cntN_mono (addP_le hPQ n hq)

def leafF (V : Nat → Nat) (root page : Nat) : Nat := ent V (deep V page 2 root).2 (pt page 0) / 1024
/-- a page of a copy: with these bits, from this frame -/
def cpS (F to : Nat) (s : PS) (page bt fr : Nat) : PS := ⟨(mapS F s to page bt).1.Fr, cpV F (mapS F s to page bt).1.V (leafF (mapS F s to page bt).1.V to page : Nat) (fr : Nat)⟩
/-- one visit of a copy -/
def cpStep (F to : Nat) (s : PS) (v : Int × Nat) : PS := if v.1 < 0 then s else cpS F to s v.1.toNat (v.2 % 32) (v.2 / 1024)
def cpAll (F to : Nat) (s : PS) (l : List (Int × Nat)) : PS := l.foldl (cpStep F to) s
theorem cpAll_next (F to : Nat) (s : PS) (l : List (Int × Nat)) (v : Int × Nat) : cpAll F to s (l ++ [v]) = cpStep F to (cpAll F to s l) v := by
  unfold cpAll
  rw [List.foldl_append]
  rfl

/-- behind some visits of a copy of root into to -/
structure CI (F : Nat) (s0 : PS) (R0 : Roles) (root to : Nat) (pre : List (Int × Nat)) (s : PS) (R : Roles) : Prop where
  grow : Grow F s0 R0 s R to
  full : Full R
  has : ∀ i : Nat, hasB F R to 0 i = true ↔ ∃ v ∈ pre, v.1 = (i : Int)
/-- where a copy begins -/
structure CB (F : Nat) (s0 : PS) (R0 : Roles) (root to : Nat) : Prop where
  wf : WFS F s0 R0
  full : Full R0
  hroot : R0 root = some (root, 3, 0)
  hto : R0 to = some (to, 3, 0)
  ne : root ≠ to
  none : ∀ i, hasB F R0 to 0 i = false
  enough : cntN (hasB F R0 root) ≤ s0.left F + 1
  one : cntN (hasB F R0 to) = 1
theorem CB.start {F : Nat} {s0 : PS} {R0 : Roles} {root to : Nat} (b : CB F s0 R0 root to) : CI F s0 R0 root to [] s0 R0 :=
  ⟨Grow.refl b.wf to, b.full, fun i => by rw [b.none i]; simp⟩
/-- the copy has just places that the other has -/
theorem CI.sub {F : Nat} {s0 s : PS} {R0 R : Roles} {root to : Nat} {pre post : List (Int × Nat)} (b : CB F s0 R0 root to) (c : CI F s0 R0 root to pre s R) (hall : visT s0.V 2 root 0 32 = pre ++ post) : ∀ l i, hasB F R to l i = true → hasB F R0 root l i = true := by
  intro l i h
  obtain ⟨f, hf⟩ := (hasB_iff c.grow.wf.lt _ _ _).1 h
  have hl := c.grow.wf.level hf
  by_cases c3 : l = 3
  · obtain ⟨rfl, _⟩ := hl.2 c3
    subst c3
    exact (hasB_iff b.wf.lt _ _ _).2 ⟨root, b.hroot⟩
  · obtain ⟨g, p, h1, h2⟩ := c.full f to l i hf (by omega)
    obtain ⟨v, hv, hv1⟩ := (c.has p).1 ((hasB_iff c.grow.wf.lt _ _ _).2 ⟨g, h1⟩)
    have hv' : v ∈ visT s0.V 2 root 0 32 := by rw [hall]; exact List.mem_append_left _ hv
    obtain ⟨k, hk, hv2⟩ := mem_visT.1 hv'
    rcases vis_page b.wf root 2 root 0 k b.hroot hk v hv2 with ⟨e, _⟩ | ⟨j, e, e2, _⟩
    · omega
    · obtain rfl : j = p := by omega
      obtain ⟨g', hg'⟩ := b.wf.anc e2 l (by omega)
      rw [Nat.zero_add, h2] at hg'
      exact (hasB_iff b.wf.lt _ _ _).2 ⟨g', hg'⟩
/-- behind all visits -/
theorem CI.all {F : Nat} {s0 s : PS} {R0 R : Roles} {root to : Nat} (b : CB F s0 R0 root to) (c : CI F s0 R0 root to (visT s0.V 2 root 0 32) s R) : hasB F R to = hasB F R0 root := by
  have hR := c.grow.wf
  funext l i
  apply Bool.eq_iff_iff.2
  refine ⟨c.sub b (List.append_nil _).symm l i, fun h => ?_⟩
  obtain ⟨f, hf⟩ := (hasB_iff b.wf.lt _ _ _).1 h
  have hl := b.wf.level hf
  by_cases c3 : l = 3
  · obtain ⟨rfl, _⟩ := hl.2 c3
    subst c3
    exact (hasB_iff hR.lt _ _ _).2 ⟨to, c.grow.sub _ _ b.hto⟩
  · have key : ∃ g p, R0 g = some (root, 0, p) ∧ p / 32 ^ l = i := b.full f root l i hf (by omega)
    obtain ⟨g, p, h1, h2⟩ := key
    obtain ⟨v, hv, hv1⟩ := vis_page_all b.wf b.hroot h1
    have := (c.has p).2 ⟨v, hv, hv1⟩
    obtain ⟨g', hg'⟩ := (hasB_iff hR.lt _ _ _).1 this
    obtain ⟨g2, hg2⟩ := hR.anc hg' l (by omega)
    rw [Nat.zero_add, h2] at hg2
    exact (hasB_iff hR.lt _ _ _).2 ⟨g2, hg2⟩
/-- the numbers of a visit of a page -/
structure CV (F : Nat) (s : PS) (to page bt : Nat) : Prop where
  page_lt : page < 32768
  bits : bt % 2 = 1
  bits_lt : bt < 32
  err : (mapS F s to page bt).2 = 0
  leaf : ∃ b, b < F ∧ tbLeaf (mapS F s to page bt).1.V F to (page * 256) = some (b * 256 + 8 * pt page 0) ∧ leafF (mapS F s to page bt).1.V to page = ent (mapS F s to page bt).1.V b (pt page 0) / 1024
  leaf_lt : leafF (mapS F s to page bt).1.V to page < F
theorem mod_1024_32 (x : Nat) (h : x % 1024 < 32) (h2 : x % 2 = 1) : x % 32 % 2 = 1 := by omega
/-- a page that is visited is not there yet -/
theorem cp_new {F : Nat} {s0 s : PS} {R0 R : Roles} {root to i : Nat} {pre post : List (Int × Nat)} {v : Int × Nat} (b : CB F s0 R0 root to) (c : CI F s0 R0 root to pre s R) (hall : visT s0.V 2 root 0 32 = pre ++ v :: post) (e2 : R0 (v.2 / 1024) = some (root, 0, i)) : hasB F R to 0 i = false := by
  cases hh : hasB F R to 0 i with
  | false => rfl
  | true =>
    exfalso
    obtain ⟨u, hu, hu1⟩ := (c.has i).1 hh
    have hu' : u ∈ visT s0.V 2 root 0 32 := by rw [hall]; exact List.mem_append_left _ hu
    obtain ⟨k', hk', hu2⟩ := mem_visT.1 hu'
    have hnd := (vis_nodup b.wf b.hroot).1
    rw [hall, frs_append] at hnd
    rcases vis_page b.wf root 2 root 0 k' b.hroot hk' u hu2 with ⟨z, _⟩ | ⟨j, z1, z2, _⟩
    · rw [z] at hu1; omega
    · have hj : j = i := Int.ofNat.inj (z1.symm.trans hu1)
      rw [hj] at z2
      have heq := b.wf.inj _ _ _ z2 e2
      exact (List.nodup_append.1 hnd).2.2 _ (mem_frs.2 ⟨u, hu, rfl⟩) _ (List.mem_cons_self) heq
theorem cp_lack {F : Nat} {s0 s : PS} {R0 R : Roles} {root to i fr : Nat} {pre post : List (Int × Nat)} (b : CB F s0 R0 root to) (c : CI F s0 R0 root to pre s R) (hall : visT s0.V 2 root 0 32 = pre ++ post) (e2 : R0 fr = some (root, 0, i)) (hnew : hasB F R to 0 i = false) : (deep s.V i 2 to).1 + 1 ≤ s.left F := by
  have hi : i < 32768 := (b.wf.bound e2).2.2.2 rfl
  have hRto := c.grow.sub _ _ b.hto
  have hsub := c.sub b hall
  have hcnt := c.grow.cnt
  rw [b.one] at hcnt
  have hen := b.enough
  obtain ⟨dl, dno⟩ := deep_no c.grow.wf hRto hi hnew
  generalize (deep s.V i 2 to).1 = n at *
  have hQ : ∀ l, l ≤ n → hasB F R0 root l (i / 32 ^ l) = true := fun l hl => by
    obtain ⟨g', hg'⟩ := anc_of b.wf e2 l (by omega)
    exact (hasB_iff b.wf.lt _ _ _).2 ⟨g', hg'⟩
  have hlack := cntN_lack hi dl dno hsub hQ
  clear hsub hQ dno
  generalize cntN (hasB F R to) = x at *
  generalize cntN (hasB F R0 root) = y at *
  omega
set_option maxHeartbeats 1000000 in
theorem cp_grow {F : Nat} {s ms : PS} {R R' : Roles} {to i l bt g t fr : Nat} (hR : WFS F s R) (m : Mapped F s R ms R' to i l bt) (hnew : hasB F R to 0 i = false) (hfr : fr < F) (hg : R' g = some (to, 0, i)) : Grow F s R ⟨ms.Fr, cpV F ms.V (g : Int) (fr : Int)⟩ R' to := by
  have hR' := m.grow.wf
  have hgF := hR'.lt _ _ hg
  have hV := cpV_at ms.V hgF hfr
  have hV2 : ∀ f a, a / 256 = f → f ≠ g → cpV F ms.V (g : Int) (fr : Int) a = ms.V a := fun f a ha hf => by
    rw [hV, if_neg]
    rw [ha]; exact hf
  refine ⟨hR'.congr fun f r' l' i' hf a ha => hV2 f a ha (fun h => ?_), m.grow.sub, m.grow.oth, m.grow.cnt, fun f r' l' i' hr hf a ha => (hV2 f a ha (fun h => ?_)).trans (m.grow.keep f r' l' i' hr hf a ha), fun f i' hf a ha => (hV2 f a ha (fun h => ?_)).trans (m.grow.page f i' hf a ha)⟩
  · rw [h, hg] at hf
    cases hf
  · have h4 := m.grow.sub _ _ hf
    rw [h, hg] at h4
    cases h4
    exact hr rfl
  · have h4 := m.grow.sub _ _ hf
    rw [h, hg] at h4
    cases h4
    have := (hasB_iff hR.lt _ _ _).2 ⟨f, hf⟩
    rw [hnew] at this
    cases this
set_option maxHeartbeats 1000000 in
theorem cp_page {F : Nat} (hF : F ≤ 256) {s0 s : PS} {R0 R : Roles} {root to i fr bt : Nat} {pre post : List (Int × Nat)} (b : CB F s0 R0 root to) (c : CI F s0 R0 root to pre s R) (hall : visT s0.V 2 root 0 32 = pre ++ post) (e2 : R0 fr = some (root, 0, i)) (hnew : hasB F R to 0 i = false) (hb : bt < 32) (hb1 : bt % 2 = 1) :
    (∃ R', Grow F s0 R0 (cpS F to s i bt fr) R' to ∧ Full R' ∧ ∀ j, hasB F R' to 0 j = (hasB F R to 0 j || decide (j = i))) ∧ CV F s to i bt := by
  have hi : i < 32768 := (b.wf.bound e2).2.2.2 rfl
  have hRto := c.grow.sub _ _ b.hto
  have hR := c.grow.wf
  have hfr := b.wf.lt _ _ e2
  have hlack := cp_lack b c hall e2 hnew
  rcases mapS_cases hF hR c.full hRto hi hb hb1 with ⟨_, h2⟩ | ⟨_, _, h3⟩ | ⟨_, h2, R', l, hl, m, hfull, _, _⟩
  · rw [hnew] at h2; cases h2
  · exact absurd h3 (Nat.not_lt.2 hlack)
  · have hR' := m.grow.wf
    have hp0 : i / 32 ^ 0 = i := by rw [Nat.pow_zero, Nat.div_one]
    have hh : ∀ j, hasB F R' to 0 j = (hasB F R to 0 j || decide (j = i)) := fun j => by
      rw [m.has, hp0, decide_eq_true (Nat.zero_le l), Bool.true_and]
    have hhas : hasB F R' to 0 i = true := by rw [hh]; simp
    obtain ⟨g, hg⟩ := (hasB_iff hR'.lt _ _ _).1 hhas
    obtain ⟨t, ht, q1, q2, q3⟩ := leaf_at hR' (m.grow.sub _ _ hRto) hi hg
    have hk := (kid_some q3).2
    have hleaf0 : leafF (mapS F s to i bt).1.V to i = ent (mapS F s to i bt).1.V t (pt i 0) / 1024 := by
      unfold leafF
      rw [q2]
    have hleaf := hleaf0.trans hk
    refine ⟨⟨R', ?_, hfull, hh⟩, hi, hb1, hb, h2, ⟨t, hR'.lt _ _ ht, q1, hleaf0⟩, by rw [hleaf]; exact hR'.lt _ _ hg⟩
    unfold cpS
    rw [hleaf]
    exact c.grow.trans (cp_grow (t := t) hR m hnew hfr hg)
theorem cp_step {F : Nat} (hF : F ≤ 256) {s0 s : PS} {R0 R : Roles} {root to : Nat} {pre post : List (Int × Nat)} {v : Int × Nat} (b : CB F s0 R0 root to) (c : CI F s0 R0 root to pre s R) (hall : visT s0.V 2 root 0 32 = pre ++ v :: post) :
    (∃ R', CI F s0 R0 root to (pre ++ [v]) (cpStep F to s v) R') ∧ (v.1 < 0 ∨ ∃ i : Nat, v.1 = (i : Int) ∧ v.2 / 1024 < F ∧ CV F s to i (v.2 % 32)) := by
  have hv : v ∈ visT s0.V 2 root 0 32 := by rw [hall]; simp
  obtain ⟨k, hk, hv1⟩ := mem_visT.1 hv
  rcases vis_page b.wf root 2 root 0 k b.hroot hk v hv1 with ⟨e, _⟩ | ⟨i, e, e2, e3, e4⟩
  · have hneg : v.1 < 0 := by rw [e]; decide
    refine ⟨⟨R, ?_⟩, .inl hneg⟩
    unfold cpStep
    rw [if_pos hneg]
    refine ⟨c.grow, c.full, fun i => ?_⟩
    rw [c.has i]
    constructor
    · rintro ⟨u, hu, h⟩
      exact ⟨u, List.mem_append_left _ hu, h⟩
    · rintro ⟨u, hu, h⟩
      rcases List.mem_append.1 hu with hu | hu
      · exact ⟨u, hu, h⟩
      · rw [List.mem_singleton.1 hu, e] at h
        omega
  · have hnn : ¬ v.1 < 0 := by rw [e]; omega
    have hto : v.1.toNat = i := by rw [e]; exact Int.toNat_natCast i
    have hfr := b.wf.lt _ _ e2
    have hnew := cp_new b c hall e2
    obtain ⟨⟨R', g1, g2, g3⟩, cv⟩ := cp_page hF b c hall e2 hnew (Nat.mod_lt _ (by decide)) (mod_1024_32 _ e3 e4)
    refine ⟨⟨R', ?_⟩, .inr ⟨i, e, hfr, cv⟩⟩
    unfold cpStep
    rw [if_neg hnn, hto]
    refine ⟨g1, g2, fun j => ?_⟩
    rw [g3, Bool.or_eq_true, c.has j]
    constructor
    · rintro (⟨u, hu, h⟩ | h)
      · exact ⟨u, List.mem_append_left _ hu, h⟩
      · exact ⟨v, List.mem_append_right _ (List.mem_singleton.2 rfl), by rw [e, of_decide_eq_true h]⟩
    · rintro ⟨u, hu, h⟩
      rcases List.mem_append.1 hu with hu | hu
      · exact .inl ⟨u, hu, h⟩
      · rw [List.mem_singleton.1 hu, e] at h
        exact .inr (decide_eq_true (Int.ofNat.inj h).symm)
end Go.Proofs.YtijooajhjcfneaaGreat

namespace Go.Proofs.YtijooajhjcfneaaGreat.Each2
open Go.RowKit

/-- what is kept, visit by visit -/
structure EachI (V : Nat → Nat) (R : Roles) (q p F root : Nat) (fd : FuncId) (c1 c2 : Nat) (all : List (Int × Nat)) (Inv : (Nat → Prop) → List (Int × Nat) → World → Prop) : Prop where
  pl : ∀ S pre w, Inv S pre w → ∃ (S' : Nat → Prop) (Fr' : Nat → Bool) (V' : Nat → Nat), (∀ k, S k → S' k) ∧ Pl S' w q p F 0 Fr' V' ∧ (∀ t l i k, R t = some (root, l + 1, i) → t ∉ frs pre → k < 32 → ent V' t k = ent V t k) ∧ ∀ w', Pl S' w' q p F 0 Fr' V' → Chg (fun k => ¬ S' k) w w' → Inv S pre w'
  still : ∀ S S' pre w w', Inv S pre w → Chg (fun _ => False) w w' → (∀ k, S' k → S k ∨ w.heap.size ≤ k) → (∀ k, S' k → k < w'.heap.size) → Inv S' pre w'
  act : ∀ S pre v post w, all = pre ++ v :: post → Inv S pre w → Calls Tryz.prog fd #[.int .i64 v.1, .int .u64 (v.2 : Nat), .pointer (some ⟨c1, 0, none⟩), .pointer (some ⟨c2, 0, none⟩)] w fun e w' => e = .returned (.tuple #[]) ∧ Inv S (pre ++ [v]) w' ∧ Chg (fun k => ¬ S k) w w'
  nodup : (frs all).Nodup
  enter : ∀ (a b : Value) (w : World), (callFunc fd #[a, b, .pointer (some ⟨c1, 0, none⟩), .pointer (some ⟨c2, 0, none⟩)]).run Tryz.prog w = .ok (.enter fd #[a, b, .pointer (some ⟨c1, 0, none⟩), .pointer (some ⟨c2, 0, none⟩)]) w
  bound : ∀ S pre w, Inv S pre w → ∀ k, S k → k < w.heap.size

abbrev downV (bp bd bn : Nat) : Value := .func (.func 79) #[] #[.pointer (some ⟨bp, 0, none⟩), .pointer (some ⟨bd, 0, none⟩), .pointer (some ⟨bn, 0, none⟩)]
/-- the three variables that the closure reads -/
def Boxes (w : World) (q bp bd bn : Nat) (fd : FuncId) (c1 c2 : Nat) : Prop :=
  w.cell? ⟨bp, 0, none⟩ = some (.pointer (some ⟨q, 0, none⟩)) ∧ w.cell? ⟨bd, 0, none⟩ = some (.func (.func fd) #[] #[.pointer (some ⟨c1, 0, none⟩), .pointer (some ⟨c2, 0, none⟩)]) ∧ w.cell? ⟨bn, 0, none⟩ = some (downV bp bd bn)
theorem Boxes.chg {S : Nat → Prop} {w w' : World} {q bp bd bn : Nat} {fd : FuncId} {c1 c2 : Nat} (h : Boxes w q bp bd bn fd c1 c2) (c : Chg (fun k => ¬ S k) w w') (h1 : S bp) (h2 : S bd) (h3 : S bn) (hlt : ∀ k, S k → k < w.heap.size) : Boxes w' q bp bd bn fd c1 c2 :=
  ⟨(c.cell (hlt _ h1) (fun a => a h1)).trans h.1, (c.cell (hlt _ h2) (fun a => a h2)).trans h.2.1, (c.cell (hlt _ h3) (fun a => a h3)).trans h.2.2⟩

def DownPost (S : Nat → Prop) (w : World) (Inv : (Nat → Prop) → List (Int × Nat) → World → Prop) (done : List (Int × Nat)) (e : Ending) (w' : World) : Prop := e = .returned (.tuple #[]) ∧ Inv S done w' ∧ Chg (fun k => ¬ S k) w w'

theorem fit8 {t F k : Nat} (h : t < F) (hk : k < 32) : t * 256 + 8 * k + 8 ≤ F * 256 := by omega
theorem each_wraps (first k : Nat) (hf : first < 32768) (hk : k < 32) : wrap64 ((first : Int) * 32) = (first : Int) * 32 ∧ wrap64 ((first : Int) * 32 + (k : Int)) = ((first * 32 + k : Nat) : Int) ∧ IntKind.i64.wrap ((first : Int) * 32) = (first : Int) * 32 ∧ IntKind.i64.wrap ((first : Int) * 32 + (k : Int)) = ((first * 32 + k : Nat) : Int) ∧ ((first * 32 + k : Nat) : Int) = (first : Int) * 32 + (k : Int) := by
  refine ⟨?_, ?_, i64_wrap_eq rfl (by omega), i64_wrap_eq (by omega) (by omega), by omega⟩
  · unfold wrap64; omega
  · unfold wrap64; omega

set_option maxRecDepth 100000 in
set_option maxHeartbeats 1600000 in
theorem down_page {V : Nat → Nat} {R : Roles} {q p F root : Nat} {fd : FuncId} {c1 c2 : Nat} {all : List (Int × Nat)} {Inv : (Nat → Prop) → List (Int × Nat) → World → Prop} (E : EachI V R q p F root fd c1 c2 all Inv) (hF : F ≤ 256)
    (S : Nat → Prop) (w : World) (bp bd bn : Nat) (hb : Boxes w q bp bd bn fd c1 c2) (h1 : S bp) (h2 : S bd) (h3 : S bn) (pre post : List (Int × Nat)) (hI : Inv S pre w) (t first : Nat) (ht : R t = some (root, 0 + 1, first)) (htF : t < F) (hfi : first < 32768) (hall : all = pre ++ visT V 0 t first 32 ++ post) (hnt : t ∉ frs (pre ++ visT V 0 t first 32)) :
    Calls Tryz.prog 79 #[.int .u64 t, .int .i64 0, .int .i64 first, .pointer (some ⟨bp, 0, none⟩), .pointer (some ⟨bd, 0, none⟩), .pointer (some ⟨bn, 0, none⟩)] w (DownPost S w Inv (pre ++ visT V 0 t first 32)) := by
  have HB := Lib.hid hb
  have hcf := E.enter
  have H0 := Lib.hid (show Inv S (pre ++ visT V 0 t first 0) w ∧ Chg (fun k => ¬ S k) w w from ⟨by rw [visT_zero, List.append_nil]; exact hI, Chg.refl _ _⟩)
  have HLT := Lib.hid (E.bound S pre w hI)
  have HN := Lib.hid (And.intro ht (And.intro htF (And.intro hfi (And.intro hall (And.intro hnt hF)))))
  clear hb hI ht htF hfi hall hnt hF
  go_enter Tryz.func79, Tryz.ntmps79
  go_wp2_with fail
  go_loopw [13] (fun i wr => ∃ k : Nat, k ≤ 32 ∧ i = .int .i64 k ∧ Hid (Inv S (pre ++ visT V 0 t first k) wr ∧ Chg (fun k => ¬ S k) w wr)) (fun i _ => 32 - (intOf i).toNat)
  case atStart => exact ⟨0, Nat.zero_le _, rfl, H0⟩
  case round =>
    obtain ⟨k, hk, rfl, HK⟩ := hrel
    by_cases hlt : k < 32
    · have k0 : decide ((k : Int) < 32) = true := decide_eq_true (by omega)
      obtain ⟨S', Fr', V', hss, hP, hent, hback⟩ := E.pl _ _ _ HK.out.1
      obtain ⟨b1, b2, b3⟩ := HB.out.chg HK.out.2 h1 h2 h3 HLT.out
      obtain ⟨rest, hrest⟩ := visT_split V 0 t first k 32 hk
      have hnt : t ∉ frs (pre ++ visT V 0 t first k) := fun hm => HN.out.2.2.2.2.1 (by
        rw [hrest, ← List.append_assoc]
        show t ∈ List.map _ _
        rw [List.map_append]
        exact List.mem_append_left _ hm)
      have he := hent t 0 first k HN.out.1 hnt hlt
      have KM := f_mem hP
      have KA := sp_at wr t k (Nat.lt_of_lt_of_le HN.out.2.1 HN.out.2.2.2.2.2) hlt (t : Int) (k : Int) rfl rfl
      have KL := f_load8 hP HN.out.2.2.2.2.2 (t * 256 + 8 * k) (fit8 HN.out.2.1 hlt) _ rfl
      rw [show entV V' (t * 256 + 8 * k) = ent V t k from he] at KL
      have hyl := ent_lt V t k
      have VS := Lib.hid (visT_succ V 0 t first k)
      have VN := Lib.hid (fun h => visE_no (V := V) (l := 0) (t := t) (first := first) (k := k) h)
      have VP := Lib.hid (fun h => visE_page (V := V) (t := t) (first := first) (k := k) h)
      have VR := Lib.hid hrest
      obtain ⟨y, hy⟩ : ∃ y, y = ent V t k := ⟨_, rfl⟩
      rw [← hy] at KL hyl VN VP
      have hbit := and_one y hyl
      obtain ⟨a, ha⟩ : ∃ a, a = t * 256 + 8 * k := ⟨_, rfl⟩
      rw [← ha] at KL KA
      obtain ⟨n1, n2, n3, n4, n5⟩ := each_wraps first k HN.out.2.2.1 hlt
      have KM := Lib.hid KM; have KA := Lib.hid KA; have KL := Lib.hid KL; have HBK := Lib.hid hback; have HSS := Lib.hid hss
      clear hP hent hback hss hnt he hy ha hyl hrest
      by_cases e1 : y % 2 = 0
      · rw [e1] at hbit
        have HV := Lib.hid (VN.out e1)
        clear e1
        go_wp2_with fail
        refine KM.out.mono ?_
        rintro e w' ⟨rfl, rfl⟩
        go_wp2_with fail
        refine KA.out.mono ?_
        rintro e w' ⟨rfl, rfl⟩
        go_wp2_with fail
        refine KL.out.mono ?_
        rintro e w3 ⟨rfl, m3, c3⟩
        have M3 := Lib.hid (And.intro (HBK.out w3 m3 c3) (HK.out.2.trans (c3.mono (fun k a b => a (HSS.out k b))))); clear m3 c3
        go_wp2_with fail
        go_roundw
        case rel => exact ⟨k + 1, by omega, by go_num, by rw [VS.out, HV.out, List.append_nil]; exact M3.out⟩
        case measure => simp [intOf]; omega
      · have e1' : y % 2 = 1 := by omega
        rw [e1'] at hbit
        have HV := Lib.hid (VP.out e1')
        obtain ⟨rest1, hrest1⟩ := visT_split V 0 t first (k + 1) 32 (by omega)
        have hall : all = (pre ++ visT V 0 t first k) ++ (((first * 32 + k : Nat) : Int), y) :: (rest1 ++ post) := by
          rw [HN.out.2.2.2.1, hrest1, VS.out, HV.out]
          simp [List.append_assoc]
        have KD := fun W (H : Inv S (pre ++ visT V 0 t first k) W) => Lib.hid (E.act S _ _ _ W hall H)
        rw [n5] at KD n2 n4
        have KD := Lib.hid KD
        clear e1 e1' hall n5 hrest1
        go_wp2_with fail
        refine KM.out.mono ?_
        rintro e w' ⟨rfl, rfl⟩
        go_wp2_with fail
        refine KA.out.mono ?_
        rintro e w' ⟨rfl, rfl⟩
        go_wp2_with fail
        refine KL.out.mono ?_
        rintro e w3 ⟨rfl, m3, c3⟩
        have M3 := Lib.hid (And.intro (HBK.out w3 m3 c3) (HK.out.2.trans (c3.mono (fun k a b => a (HSS.out k b))))); clear m3 c3
        obtain ⟨b1, b2, b3⟩ := HB.out.chg M3.out.2 h1 h2 h3 HLT.out
        go_wp2_with fail
        refine (KD.out w3 M3.out.1).out.mono ?_
        rintro e w4 ⟨rfl, i4, c4⟩
        have M4 := Lib.hid (And.intro i4 (M3.out.2.trans c4)); clear i4 c4
        go_wp2_with fail
        go_roundw
        case rel => exact ⟨k + 1, by omega, by go_num, by rw [VS.out, HV.out, ← List.append_assoc]; exact M4.out⟩
        case measure => simp [intOf]; omega
    · obtain rfl : k = 32 := by omega
      have k0 : decide (((32 : Nat) : Int) < 32) = false := by decide
      clear hlt
      go_wp2_with fail
      go_end0
      exact ⟨rfl, HK.out⟩

set_option maxRecDepth 100000 in
set_option maxHeartbeats 1600000 in
theorem down_table {V : Nat → Nat} {R : Roles} {q p F root : Nat} {fd : FuncId} {c1 c2 : Nat} {all : List (Int × Nat)} {Inv : (Nat → Prop) → List (Int × Nat) → World → Prop} (E : EachI V R q p F root fd c1 c2 all Inv) (hF : F ≤ 256) {Fr : Nat → Bool} (hW : WF F Fr V R)
    (S : Nat → Prop) (w : World) (bp bd bn : Nat) (hb : Boxes w q bp bd bn fd c1 c2) (h1 : S bp) (h2 : S bd) (h3 : S bn) (pre post : List (Int × Nat)) (hI : Inv S pre w) (t first : Nat) (l lv : Nat) (hlv : lv = l + 1) (hl2 : lv ≤ 2) (ht : R t = some (root, lv + 1, first)) (htF : t < F) (hfi : first < 32768) (hall : all = pre ++ visT V lv t first 32 ++ post) (hnt : t ∉ frs (pre ++ visT V lv t first 32))
    (IH : ∀ (w : World) (pre post : List (Int × Nat)) (t first : Nat), Boxes w q bp bd bn fd c1 c2 → Inv S pre w → R t = some (root, l + 1, first) → t < F → first < 32768 → all = pre ++ visT V l t first 32 ++ post → t ∉ frs (pre ++ visT V l t first 32) →
      Calls Tryz.prog 79 #[.int .u64 t, .int .i64 l, .int .i64 first, .pointer (some ⟨bp, 0, none⟩), .pointer (some ⟨bd, 0, none⟩), .pointer (some ⟨bn, 0, none⟩)] w (DownPost S w Inv (pre ++ visT V l t first 32))) :
    Calls Tryz.prog 79 #[.int .u64 t, .int .i64 lv, .int .i64 first, .pointer (some ⟨bp, 0, none⟩), .pointer (some ⟨bd, 0, none⟩), .pointer (some ⟨bn, 0, none⟩)] w (DownPost S w Inv (pre ++ visT V lv t first 32)) := by
  have HB := Lib.hid hb
  have HIH := Lib.hid IH
  have HW := Lib.hid hW
  have HLV := Lib.hid (And.intro hlv hl2)
  have z1 : ((lv : Int) == 0) = false := by simp; omega
  have z2 : ¬ lv = 0 := by omega
  have z3 : IntKind.i64.wrap ((lv : Int) - 1) = (l : Int) := i64_wrap_eq (by omega) (by omega)
  clear IH hW
  have hcf := E.enter
  have H0 := Lib.hid (show Inv S (pre ++ visT V lv t first 0) w ∧ Chg (fun k => ¬ S k) w w from ⟨by rw [visT_zero, List.append_nil]; exact hI, Chg.refl _ _⟩)
  have HLT := Lib.hid (E.bound S pre w hI)
  have HN := Lib.hid (And.intro ht (And.intro htF (And.intro hfi (And.intro hall (And.intro hnt hF)))))
  clear hb hl2 hlv hI ht htF hfi hall hnt hF
  go_enter Tryz.func79, Tryz.ntmps79
  go_wp2_with fail
  go_loopw [13] (fun i wr => ∃ k : Nat, k ≤ 32 ∧ i = .int .i64 k ∧ Hid (Inv S (pre ++ visT V lv t first k) wr ∧ Chg (fun k => ¬ S k) w wr)) (fun i _ => 32 - (intOf i).toNat)
  case atStart => exact ⟨0, Nat.zero_le _, rfl, H0⟩
  case round =>
    obtain ⟨k, hk, rfl, HK⟩ := hrel
    by_cases hlt : k < 32
    · have k0 : decide ((k : Int) < 32) = true := decide_eq_true (by omega)
      obtain ⟨S', Fr', V', hss, hP, hent, hback⟩ := E.pl _ _ _ HK.out.1
      obtain ⟨b1, b2, b3⟩ := HB.out.chg HK.out.2 h1 h2 h3 HLT.out
      obtain ⟨rest, hrest⟩ := visT_split V lv t first k 32 hk
      have hnt : t ∉ frs (pre ++ visT V lv t first k) := fun hm => HN.out.2.2.2.2.1 (by
        rw [hrest, ← List.append_assoc]
        show t ∈ List.map _ _
        rw [List.map_append]
        exact List.mem_append_left _ hm)
      have he := hent t lv first k HN.out.1 hnt hlt
      have KM := f_mem hP
      have KA := sp_at wr t k (Nat.lt_of_lt_of_le HN.out.2.1 HN.out.2.2.2.2.2) hlt (t : Int) (k : Int) rfl rfl
      have KL := f_load8 hP HN.out.2.2.2.2.2 (t * 256 + 8 * k) (fit8 HN.out.2.1 hlt) _ rfl
      rw [show entV V' (t * 256 + 8 * k) = ent V t k from he] at KL
      have hyl := ent_lt V t k
      have VS := Lib.hid (visT_succ V lv t first k)
      have VN := Lib.hid (fun h => visE_no (V := V) (l := lv) (t := t) (first := first) (k := k) h)
      have VP := Lib.hid (fun h => visE_table' (V := V) (t := t) (first := first) (k := k) HLV.out.1 h)
      have VR := Lib.hid hrest
      obtain ⟨y, hy⟩ : ∃ y, y = ent V t k := ⟨_, rfl⟩
      rw [← hy] at KL hyl VN VP
      have HY := Lib.hid hy.symm
      have HYL := Lib.hid hyl
      have hbit := and_one y hyl
      obtain ⟨a, ha⟩ : ∃ a, a = t * 256 + 8 * k := ⟨_, rfl⟩
      rw [← ha] at KL KA
      obtain ⟨n1, n2, n3, n4, n5⟩ := each_wraps first k HN.out.2.2.1 hlt
      have KM := Lib.hid KM; have KA := Lib.hid KA; have KL := Lib.hid KL; have HBK := Lib.hid hback; have HSS := Lib.hid hss
      clear hP hent hback hss hnt he hy ha hyl hrest
      by_cases e1 : y % 2 = 0
      · rw [e1] at hbit
        have HV := Lib.hid (VN.out e1)
        clear e1
        go_wp2_with fail
        refine KM.out.mono ?_
        rintro e w' ⟨rfl, rfl⟩
        go_wp2_with fail
        refine KA.out.mono ?_
        rintro e w' ⟨rfl, rfl⟩
        go_wp2_with fail
        refine KL.out.mono ?_
        rintro e w3 ⟨rfl, m3, c3⟩
        have M3 := Lib.hid (And.intro (HBK.out w3 m3 c3) (HK.out.2.trans (c3.mono (fun k a b => a (HSS.out k b))))); clear m3 c3
        go_wp2_with fail
        go_roundw
        case rel => exact ⟨k + 1, by omega, by go_num, by rw [VS.out, HV.out, List.append_nil]; exact M3.out⟩
        case measure => simp [intOf]; omega
      · have e1' : y % 2 = 1 := by omega
        rw [e1'] at hbit
        have HV := Lib.hid (VP.out e1')
        obtain ⟨rest1, hrest1⟩ := visT_split V lv t first (k + 1) 32 (by omega)
        obtain ⟨f, hf⟩ : ∃ f, f = y / 1024 := ⟨_, rfl⟩
        obtain ⟨nn, hnn⟩ : ∃ nn, nn = first * 32 + k := ⟨_, rfl⟩
        rw [← hf, ← hnn] at HV
        have hkid : kid V t k = some f := by
          rw [hf]; unfold kid; rw [HY.out, if_pos e1']
        have hch := (HW.out.kid (show R t = some (root, (l + 1) + 1, first) from HLV.out.1 ▸ HN.out.1) hlt hkid).1
        rw [← hnn] at hch
        have hfF := HW.out.lt _ _ hch
        have hnb : nn < 32768 := by
          have hb := HW.out.bound hch
          have h1 := HLV.out.1
          have h2 := HLV.out.2
          rcases (show l = 0 ∨ l = 1 by omega) with e | e
          · have := hb.2.2.1 (by omega); omega
          · have := hb.2.1 (by omega); omega
        have hall1 : all = (pre ++ visT V lv t first k) ++ visT V l f nn 32 ++ ((-1, y) :: (rest1 ++ post)) := by
          rw [HN.out.2.2.2.1, hrest1, VS.out, HV.out]
          simp [List.append_assoc]
        have hnf : f ∉ frs ((pre ++ visT V lv t first k) ++ visT V l f nn 32) := by
          have hnd := E.nodup
          rw [hall1] at hnd
          show f ∉ List.map _ _
          intro hm
          have h2 : List.map (fun v : Int × Nat => v.2 / 1024) ((pre ++ visT V lv t first k) ++ visT V l f nn 32 ++ ((-1, y) :: (rest1 ++ post))) = List.map (fun v : Int × Nat => v.2 / 1024) ((pre ++ visT V lv t first k) ++ visT V l f nn 32) ++ f :: List.map (fun v : Int × Nat => v.2 / 1024) (rest1 ++ post) := by
            rw [List.map_append, List.map_cons, hf]
          have h3 : (List.map (fun v : Int × Nat => v.2 / 1024) ((pre ++ visT V lv t first k) ++ visT V l f nn 32 ++ ((-1, y) :: (rest1 ++ post)))).Nodup := hnd
          rw [h2] at h3
          exact (List.nodup_append.1 h3).2.2 f hm f (List.mem_cons_self) rfl
        have KD := fun W (H : Inv S ((pre ++ visT V lv t first k) ++ visT V l f nn 32) W) => Lib.hid (E.act S _ _ _ W hall1 H)
        have KD := Lib.hid KD
        have KN := fun W (B : Boxes W q bp bd bn fd c1 c2) (H : Inv S (pre ++ visT V lv t first k) W) => Lib.hid (HIH.out W _ _ f nn B H hch hfF hnb hall1 hnf)
        have KN := Lib.hid KN
        have KF := fun W => tb_frame W y HYL.out
        rw [← hf] at KF
        have KF := Lib.hid KF
        rw [n5] at n2 n4
        have hnn2 : (first : Int) * 32 + (k : Int) = (nn : Int) := by rw [hnn]; exact n5.symm
        rw [hnn2] at n2 n4
        clear e1 e1' hall1 n5 hrest1 hnf hnb hfF hch hkid hf hnn
        go_wp2_with fail
        refine KM.out.mono ?_
        rintro e w' ⟨rfl, rfl⟩
        go_wp2_with fail
        refine KA.out.mono ?_
        rintro e w' ⟨rfl, rfl⟩
        go_wp2_with fail
        refine KL.out.mono ?_
        rintro e w3 ⟨rfl, m3, c3⟩
        have M3 := Lib.hid (And.intro (HBK.out w3 m3 c3) (HK.out.2.trans (c3.mono (fun k a b => a (HSS.out k b))))); clear m3 c3
        have B3 := HB.out.chg M3.out.2 h1 h2 h3 HLT.out
        have hi3 := E.still S S _ w3 w3.drew M3.out.1 (Chg.refl _ _).drew (fun k h => .inl h) (E.bound S _ w3 M3.out.1)
        have KN1 := Lib.hid (KN.out w3.drew B3 hi3).out
        have KF1 := Lib.hid (KF.out w3.drew)
        have hcc := M3.out.2.drew
        have HC3 := Lib.hid hcc
        obtain ⟨b1, b2, b3⟩ := B3
        clear hi3 hcc
        go_wp2_with fail
        go_region_held3 (fun w' => w'.cell? ⟨bn, 0, none⟩ = some (downV bp bd bn)) (first | assumption | exact b3 | (simp [*]; done))
          (first
            | (go_at_call 58; refine KF1.out.mono ?_; rintro e v1 ⟨rfl, rfl⟩)
            | (go_at_call 79; refine KN1.out.mono ?_; rintro e v9 ⟨rfl, i9, k9⟩; have M9 := Lib.hid (And.intro i9 (HC3.out.trans k9)); clear i9 k9; obtain ⟨q1, q2, q3⟩ := HB.out.chg M9.out.2 h1 h2 h3 HLT.out))
        go_wp2_with fail
        refine (KD.out v9 M9.out.1).out.mono ?_
        rintro e w5 ⟨rfl, i4, c4⟩
        have M4 := Lib.hid (And.intro i4 (M9.out.2.trans c4)); clear i4 c4
        go_wp2_with fail
        go_roundw
        case rel => exact ⟨k + 1, by omega, by go_num, by rw [VS.out, HV.out, ← List.append_assoc, ← List.append_assoc]; exact M4.out⟩
        case measure => simp [intOf]; omega
    · obtain rfl : k = 32 := by omega
      have k0 : decide (((32 : Nat) : Int) < 32) = false := by decide
      clear hlt
      go_wp2_with fail
      go_end0
      exact ⟨rfl, HK.out⟩

theorem each_boxes (w : World) (q : Nat) (fd : FuncId) (c1 c2 : Nat) (T1 T2 T3 : TypeId) :
    Boxes (((w.alloc (.cells #[.pointer (some ⟨q, 0, none⟩)] T1)).alloc (.cells #[.func (.func fd) #[] #[.pointer (some ⟨c1, 0, none⟩), .pointer (some ⟨c2, 0, none⟩)]] T2)).alloc (.cells #[downV w.heap.size (w.heap.size + 1) (w.heap.size + 1 + 1)] T3)) q w.heap.size (w.heap.size + 1) (w.heap.size + 1 + 1) fd c1 c2 ∧
    Chg (fun _ => False) w (((w.alloc (.cells #[.pointer (some ⟨q, 0, none⟩)] T1)).alloc (.cells #[.func (.func fd) #[] #[.pointer (some ⟨c1, 0, none⟩), .pointer (some ⟨c2, 0, none⟩)]] T2)).alloc (.cells #[downV w.heap.size (w.heap.size + 1) (w.heap.size + 1 + 1)] T3)) ∧
    (((w.alloc (.cells #[.pointer (some ⟨q, 0, none⟩)] T1)).alloc (.cells #[.func (.func fd) #[] #[.pointer (some ⟨c1, 0, none⟩), .pointer (some ⟨c2, 0, none⟩)]] T2)).alloc (.cells #[downV w.heap.size (w.heap.size + 1) (w.heap.size + 1 + 1)] T3)).heap.size = w.heap.size + 3 := by
  have B1 := Blk.new w #[.pointer (some ⟨q, 0, none⟩)] T1
  have B2 := Blk.new (w.alloc (.cells #[.pointer (some ⟨q, 0, none⟩)] T1)) #[.func (.func fd) #[] #[.pointer (some ⟨c1, 0, none⟩), .pointer (some ⟨c2, 0, none⟩)]] T2
  have B3 := Blk.new ((w.alloc (.cells #[.pointer (some ⟨q, 0, none⟩)] T1)).alloc (.cells #[.func (.func fd) #[] #[.pointer (some ⟨c1, 0, none⟩), .pointer (some ⟨c2, 0, none⟩)]] T2)) #[downV w.heap.size (w.heap.size + 1) (w.heap.size + 1 + 1)] T3
  have z1 : (w.alloc (.cells #[.pointer (some ⟨q, 0, none⟩)] T1)).heap.size = w.heap.size + 1 := by simp
  have z2 : ((w.alloc (.cells #[.pointer (some ⟨q, 0, none⟩)] T1)).alloc (.cells #[.func (.func fd) #[] #[.pointer (some ⟨c1, 0, none⟩), .pointer (some ⟨c2, 0, none⟩)]] T2)).heap.size = w.heap.size + 1 + 1 := by simp
  rw [z1] at B2
  rw [z2] at B3
  exact ⟨⟨((B1.alloc _).alloc _).cellv 0 _ rfl, (B2.alloc _).cellv 0 _ rfl, B3.cellv 0 _ rfl⟩, (((Chg.refl _ w).alloc _).alloc _).alloc _, by simp⟩

theorem each_down {V : Nat → Nat} {R : Roles} {q p F root : Nat} {fd : FuncId} {c1 c2 : Nat} {all : List (Int × Nat)} {Inv : (Nat → Prop) → List (Int × Nat) → World → Prop} (E : EachI V R q p F root fd c1 c2 all Inv) (hF : F ≤ 256) {Fr : Nat → Bool} (hW : WF F Fr V R)
    (hr : R root = some (root, 3, 0)) (hall : all = visT V 2 root 0 32) (hnr : root ∉ frs all) (S : Nat → Prop) (w : World) (hI : Inv S [] w) :
    ∀ W, Boxes W q w.heap.size (w.heap.size + 1) (w.heap.size + 1 + 1) fd c1 c2 → Chg (fun _ => False) w W → W.heap.size = w.heap.size + 3 →
      Calls Tryz.prog 79 #[.int .u64 root, .int .i64 2, .int .i64 0, .pointer (some ⟨w.heap.size, 0, none⟩), .pointer (some ⟨w.heap.size + 1, 0, none⟩), .pointer (some ⟨w.heap.size + 1 + 1, 0, none⟩)] W (DownPost S w Inv all) := by
  have hrF := hW.lt _ _ hr
  have hbd := E.bound S [] w hI
  intro W hB hC hz
  have hI1 := E.still S (fun k => S k ∨ k = w.heap.size ∨ k = w.heap.size + 1 ∨ k = w.heap.size + 1 + 1) [] w W hI hC (fun k h => by rcases h with h | h; exact .inl h; exact .inr (by omega)) (fun k h => by rcases h with h | h; (have := hbd k h; omega); omega)
  generalize hS1 : (fun k => S k ∨ k = w.heap.size ∨ k = w.heap.size + 1 ∨ k = w.heap.size + 1 + 1) = S1 at hI1
  have s1 : S1 w.heap.size := by rw [← hS1]; exact .inr (.inl rfl)
  have s2 : S1 (w.heap.size + 1) := by rw [← hS1]; exact .inr (.inr (.inl rfl))
  have s3 : S1 (w.heap.size + 1 + 1) := by rw [← hS1]; exact .inr (.inr (.inr rfl))
  have sS : ∀ k, S k → S1 k := fun k h => by rw [← hS1]; exact .inl h
  have D0 := fun (W : World) (pre post : List (Int × Nat)) (t first : Nat) (B : Boxes W q w.heap.size (w.heap.size + 1) (w.heap.size + 1 + 1) fd c1 c2) (I : Inv S1 pre W) (h1 : R t = some (root, 0 + 1, first)) (h2 : t < F) (h3 : first < 32768) (h4 : all = pre ++ visT V 0 t first 32 ++ post) (h5 : t ∉ frs (pre ++ visT V 0 t first 32)) =>
    down_page E hF S1 W _ _ _ B s1 s2 s3 pre post I t first h1 h2 h3 h4 h5
  have D1 := fun (W : World) (pre post : List (Int × Nat)) (t first : Nat) (B : Boxes W q w.heap.size (w.heap.size + 1) (w.heap.size + 1 + 1) fd c1 c2) (I : Inv S1 pre W) (h1 : R t = some (root, 1 + 1, first)) (h2 : t < F) (h3 : first < 32768) (h4 : all = pre ++ visT V 1 t first 32 ++ post) (h5 : t ∉ frs (pre ++ visT V 1 t first 32)) =>
    down_table E hF hW S1 W _ _ _ B s1 s2 s3 pre post I t first 0 1 rfl (by omega) h1 h2 h3 h4 h5 D0
  have D2 := down_table E hF hW S1 W _ _ _ hB s1 s2 s3 [] [] hI1 root 0 1 2 rfl (by omega) hr hrF (by omega) (by rw [List.append_nil, List.nil_append]; exact hall) (by rw [List.nil_append, ← hall]; exact hnr) D1
  refine D2.mono fun e w' ⟨a, b, c⟩ => ⟨a, ?_, ?_⟩
  · rw [List.nil_append, ← hall] at b
    exact E.still S1 S all w' w' b (Chg.refl _ _) (fun k h => .inl (sS k h)) (fun k h => E.bound S1 all w' b k (sS k h))
  · exact (hC.mono (fun _ h => h.elim)).trans (c.mono (fun k a b => a (sS k b)))

set_option maxRecDepth 100000 in
set_option maxHeartbeats 1600000 in
theorem sp_each {V : Nat → Nat} {R : Roles} {q p F root : Nat} {fd : FuncId} {c1 c2 : Nat} {all : List (Int × Nat)} {Inv : (Nat → Prop) → List (Int × Nat) → World → Prop} (E : EachI V R q p F root fd c1 c2 all Inv) (hF : F ≤ 256) {Fr : Nat → Bool} (hW : WF F Fr V R)
    (hr : R root = some (root, 3, 0)) (hall : all = visT V 2 root 0 32) (hnr : root ∉ frs all) (S : Nat → Prop) (w : World) (hI : Inv S [] w) :
    Calls Tryz.prog 52 #[.pointer (some ⟨q, 0, none⟩), .int .i64 root, .func (.func fd) #[] #[.pointer (some ⟨c1, 0, none⟩), .pointer (some ⟨c2, 0, none⟩)]] w (DownPost S w Inv all) := by
  have hmf : ∀ (fn : Fn) (first cap : Array Value) (w : World), (Instr.makeFunc fn first cap).run Tryz.prog w = .ok (.func fn first cap) w := fun _ _ _ _ => rfl
  have hrF := hW.lt _ _ hr
  have q0 : IntKind.u64.wrap (root : Int) = (root : Int) := u64_wrap_lt root (by omega)
  have KD := each_down E hF hW hr hall hnr S w hI
  have KD := Lib.hid KD
  clear hr hall hnr hI hrF hW
  go_enter Tryz.func52, Tryz.ntmps52
  go_wp2_with fail
  refine (KD.out _ (each_boxes w q fd c1 c2 _ _ _).1 (each_boxes w q fd c1 c2 _ _ _).2.1 (each_boxes w q fd c1 c2 _ _ _).2.2).mono ?_
  rintro e w' ⟨rfl, i1, c1x⟩
  have HI := Lib.hid (And.intro i1 c1x); clear i1 c1x
  go_wp2_with fail
  go_end0
  exact ⟨rfl, HI.out⟩
end Go.Proofs.YtijooajhjcfneaaGreat.Each2

namespace Go.Proofs.YtijooajhjcfneaaGreat
open Go.RowKit

theorem and_31 (y : Nat) (hy : y < 18446744073709551616) : bits BinOp.and IntKind.u64 (y : Int) 31 = ((y % 32 : Nat) : Int) := by
  have h1 := u64_and_nat y 31 hy (by omega)
  rw [Nat.and_two_pow_sub_one_eq_mod y 5] at h1
  exact h1
theorem lfR_some {V : Nat → Nat} {F to page x : Nat} (hto : to < F) (hp : page < 32768) (h : tbLeaf V F to (page * 256) = some x) : lfR V F (to : Int) (page * 256) = .tuple #[.int .u64 (x : Nat), .int .i64 0] := by
  unfold lfR
  rw [if_neg (by omega), if_neg (by omega), Int.toNat_natCast, h]
  rfl
theorem wraps63 (g : Nat) (h : g < 9223372036854775808) : wrap64 (g : Int) = (g : Int) ∧ IntKind.i64.wrap (g : Int) = (g : Int) := by
  refine ⟨?_, i64_wrap_eq rfl (by omega)⟩
  unfold wrap64; omega
theorem cpS_eq (F to : Nat) (s ms : PS) (i bt fr : Nat) (h : (mapS F s to i bt).1 = ms) : cpS F to s i bt fr = ⟨ms.Fr, cpV F ms.V (leafF ms.V to i : Nat) (fr : Nat)⟩ := by
  unfold cpS
  rw [h]
end Go.Proofs.YtijooajhjcfneaaGreat
