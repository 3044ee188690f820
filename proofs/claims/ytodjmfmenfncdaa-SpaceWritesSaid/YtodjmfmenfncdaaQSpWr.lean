/-
  Spaces in plain numbers: what is put is read again.
-/
import Derived.Test.YtodjmfmenfncdaaQSpMapAny
namespace Go.Proofs.Ytodjmfmenfncdaa
open Go.RowKit

theorem ptsA (a : Nat) : a / 262144 % 32 = pt (a / 256) 2 ∧ a / 8192 % 32 = pt (a / 256) 1 ∧ a / 256 % 32 = pt (a / 256) 0 := by
  unfold pt
  refine ⟨?_, ?_, ?_⟩
  · rw [show 32 ^ 2 = 1024 from rfl]; omega
  · rw [Nat.pow_one]; omega
  · rw [Nat.pow_zero]; omega
theorem leaf_atA {F : Nat} {s : PS} {R : Roles} (h : WFS F s R) {root a g : Nat} (hr : R root = some (root, 3, 0)) (hp : a / 256 < 32768) (hg : R g = some (root, 0, a / 256)) :
    ∃ b, R b = some (root, 1, a / 256 / 32) ∧ tbLeaf s.V F root a = some (b * 256 + 8 * pt (a / 256) 0) ∧ kid s.V b (pt (a / 256) 0) = some g := by
  obtain ⟨p2, p1, p0⟩ := ptsA a
  obtain ⟨page, hpg⟩ : ∃ page, a / 256 = page := ⟨_, rfl⟩
  have p0 : a / 256 % 32 = pt page 0 := by rw [p0, hpg]
  rw [hpg] at p2 p1 hp hg ⊢
  have h0 : page / 32 ^ 0 = page := by rw [Nat.pow_zero, Nat.div_one]
  have h1 : page / 32 ^ (0 + 1) = page / 32 := by rw [Nat.zero_add, Nat.pow_one]
  have h3 : page / 32 ^ (2 + 1) = 0 := Nat.div_eq_of_lt (by omega)
  obtain ⟨b, hb⟩ := anc_of h hg (0 + 1) (by omega)
  obtain ⟨c, hc⟩ := anc_of h hg (1 + 1) (by omega)
  have k2 : kid s.V root (pt page (1 + 1)) = some c := kids_of (l := 1 + 1) h (by omega) (by rw [h3]; exact hr) hc
  have k1 : kid s.V c (pt page (0 + 1)) = some b := kids_of (l := 0 + 1) h (by omega) hc hb
  have k0 : kid s.V b (pt page 0) = some g := kids_of (l := 0) h (by omega) hb (by rw [h0]; exact hg)
  have g2 := tbGo_kid (l := 1 + 1) h hr (by omega) (pt_lt _ _) k2
  have g1 := tbGo_kid (l := 0 + 1) h hc (by omega) (pt_lt _ _) k1
  rw [h1] at hb
  exact ⟨b, hb, tbLeaf_of p2 p1 p0 g2 g1, k0⟩
theorem may23 {F e acc : Nat} (he : e % 1024 = 23) (hf : e / 1024 < F) (ha : acc = 1 ∨ acc = 2) : tbMay F e acc = true := by
  unfold tbMay
  rcases ha with rfl | rfl
  · exact decide_eq_true ⟨by omega, by omega, by rw [Nat.pow_one]; omega, hf⟩
  · exact decide_eq_true ⟨by omega, by omega, by rw [show 2 ^ 2 = 4 from rfl]; omega, hf⟩
/-- a page that is mapped for both is there for both -/
theorem tb_yes {F : Nat} {s : PS} {R : Roles} (h : WFS F s R) {root a g acc : Nat} (hr : R root = some (root, 3, 0)) (hb : AllBits s.V R root 23) (ha : a < 8388608) (hacc : acc = 1 ∨ acc = 2) (hg : R g = some (root, 0, a / 256)) : tbAt s.V F root a acc = some (g * 256 + a % 256) := by
  obtain ⟨b, h1, h2, h3⟩ := leaf_atA h hr (by omega) hg
  obtain ⟨o, d⟩ := kid_some h3
  have hbits := hb b _ _ h1 (pt_lt _ _) o
  have hm := may23 hbits (by rw [d]; exact h.lt _ _ hg) hacc
  unfold tbAt
  rw [if_neg (by omega)]
  unfold tbWalk
  rw [h2, Option.bind_some]
  have e : entV s.V (b * 256 + 8 * pt (a / 256) 0) = ent s.V b (pt (a / 256) 0) := rfl
  rw [e, if_pos hm, d]
theorem tbMay_some2 {F e acc off a : Nat} (hoff : off < 256) (h : (if tbMay F e acc = true then some (e / 1024 * 256 + off) else none) = some a) : e % 2 = 1 ∧ a / 256 = e / 1024 ∧ a % 256 = off := by
  obtain ⟨h1, h2⟩ := tbMay_some hoff h
  refine ⟨h1, h2, ?_⟩
  by_cases hm : tbMay F e acc = true
  · rw [if_pos hm] at h
    cases h
    omega
  · rw [if_neg hm] at h
    cases h
theorem page_parts (a : Nat) (ha : a < 8388608) : ((0 * 32 + a / 262144 % 32) * 32 + a / 8192 % 32) * 32 + a / 256 % 32 = a / 256 := by omega
theorem at_role2 {F : Nat} {s : PS} {R : Roles} (h : WFS F s R) {root a acc x : Nat} (hr : R root = some (root, 3, 0)) (hx : tbAt s.V F root a acc = some x) : a < 8388608 ∧ R (x / 256) = some (root, 0, a / 256) ∧ x % 256 = a % 256 := by
  unfold tbAt at hx
  by_cases c : 8388608 ≤ a
  · rw [if_pos c] at hx; cases hx
  · rw [if_neg c] at hx
    have hlt : a < 8388608 := by omega
    have hpp := page_parts a hlt
    unfold tbWalk tbLeaf at hx
    rw [Option.bind_eq_some_iff] at hx
    obtain ⟨y, hy, hx⟩ := hx
    rw [Option.bind_eq_some_iff] at hy
    obtain ⟨t2, q1, hy⟩ := hy
    rw [Option.map_eq_some_iff] at hy
    obtain ⟨t1, q2, rfl⟩ := hy
    obtain ⟨o1, d1⟩ := tbGo_some q1
    obtain ⟨o2, d2⟩ := tbGo_some q2
    have k1 : kid s.V root (a / 262144 % 32) = some t2 := by rw [kid_of_odd (show ent s.V root (a / 262144 % 32) % 2 = 1 from o1)]; exact congrArg some d1
    have r1 := (h.kid hr (mod32_lt _) k1).1
    have k2 : kid s.V t2 (a / 8192 % 32) = some t1 := by rw [kid_of_odd (show ent s.V t2 (a / 8192 % 32) % 2 = 1 from o2)]; exact congrArg some d2
    have r2 := (h.kid r1 (mod32_lt _) k2).1
    obtain ⟨o, d, m⟩ := tbMay_some2 (Nat.mod_lt _ (by decide)) hx
    have k0 := kid_of_odd (show ent s.V t1 (a / 256 % 32) % 2 = 1 from o)
    have r := (h.kid r2 (mod32_lt _) k0).1
    rw [show ent s.V t1 (a / 256 % 32) / 1024 = x / 256 from d.symm, hpp] at r
    exact ⟨hlt, r, m⟩
theorem tb_no {F : Nat} {s : PS} {R : Roles} (h : WFS F s R) {root a acc : Nat} (hr : R root = some (root, 3, 0)) (hn : ¬ (a < 8388608 ∧ hasB F R root 0 (a / 256) = true)) : tbAt s.V F root a acc = none := by
  rcases opt_cases (tbAt s.V F root a acc) with e | ⟨x, e⟩
  · exact e
  · obtain ⟨h1, h2, _⟩ := at_role2 h hr e
    exact absurd ⟨h1, (hasB_iff h.lt _ _ _).2 ⟨_, h2⟩⟩ hn
/-- may a byte be there? -/
def okB (F : Nat) (R : Roles) (root a : Nat) : Bool := decide (a < 8388608) && hasB F R root 0 (a / 256)
theorem tb_eq {F : Nat} {s s' : PS} {R : Roles} (h : WFS F s R) (h' : WFS F s' R) {root a acc acc' : Nat} (hr : R root = some (root, 3, 0)) (hb : AllBits s.V R root 23) (hb' : AllBits s'.V R root 23) (hacc : acc = 1 ∨ acc = 2) (hacc' : acc' = 1 ∨ acc' = 2) : tbAt s'.V F root a acc' = tbAt s.V F root a acc := by
  by_cases c : a < 8388608 ∧ hasB F R root 0 (a / 256) = true
  · obtain ⟨g, hg⟩ := (hasB_iff h.lt _ _ _).1 c.2
    rw [tb_yes h hr hb c.1 hacc hg, tb_yes h' hr hb' c.1 hacc' hg]
  · rw [tb_no h hr c, tb_no h' hr c]
theorem adrs_eq {V V' : Nat → Nat} {F root at_ acc acc' : Nat} (h : ∀ a, tbAt V' F root a acc' = tbAt V F root a acc) : ∀ n, adrs V' F root at_ acc' n = adrs V F root at_ acc n
  | 0 => rfl
  | n + 1 => by
    show (adrs V' F root at_ acc' n).bind _ = (adrs V F root at_ acc n).bind _
    rw [adrs_eq h n, h]
/-- all of them may be there -/
theorem adrs_some {F : Nat} {s : PS} {R : Roles} (h : WFS F s R) {root at_ acc : Nat} (hr : R root = some (root, 3, 0)) (hb : AllBits s.V R root 23) (hacc : acc = 1 ∨ acc = 2) : ∀ n, (∀ i, i < n → okB F R root ((at_ + i) % 18446744073709551616) = true) → ∃ ys, adrs s.V F root at_ acc n = some ys := by
  intro n
  induction n with
  | zero => intro _; exact ⟨[], rfl⟩
  | succ n ih =>
    intro hall
    obtain ⟨ys, hy⟩ := ih (fun i hi => hall i (by omega))
    have ho := hall n (by omega)
    unfold okB at ho
    rw [Bool.and_eq_true] at ho
    obtain ⟨g, hg⟩ := (hasB_iff h.lt _ _ _).1 ho.2
    exact ⟨_, adrs_step hy (tb_yes h hr hb (of_decide_eq_true ho.1) hacc hg)⟩
theorem adrs_no {F : Nat} {s : PS} {R : Roles} (h : WFS F s R) {root at_ acc i n : Nat} (hr : R root = some (root, 3, 0)) (hi : i < n) (ho : okB F R root ((at_ + i) % 18446744073709551616) = false) : adrs s.V F root at_ acc n = none := by
  have hn : tbAt s.V F root ((at_ + i) % 18446744073709551616) acc = none := tb_no h hr (fun c => by
    unfold okB at ho
    rw [decide_eq_true c.1, c.2] at ho
    cases ho)
  have h1 : adrs s.V F root at_ acc (i + 1) = none := by
    cases e : adrs s.V F root at_ acc i with
    | none => exact adrs_none i (i + 1) (by omega) e
    | some l => exact adrs_step_no e hn
  exact adrs_none (i + 1) n (by omega) h1
theorem adrs_get {V : Nat → Nat} {F root at_ acc : Nat} : ∀ n l, adrs V F root at_ acc n = some l → ∀ i (hi : i < l.length), tbAt V F root ((at_ + i) % 18446744073709551616) acc = some l[i] := by
  intro n
  induction n with
  | zero => intro l h i hi; cases h; cases hi
  | succ n ih =>
    intro l h i hi
    have h' : (adrs V F root at_ acc n).bind (fun l => (tbAt V F root ((at_ + n) % 18446744073709551616) acc).map fun a => l ++ [a]) = some l := h
    rw [Option.bind_eq_some_iff] at h'
    obtain ⟨l1, h1, h2⟩ := h'
    rw [Option.map_eq_some_iff] at h2
    obtain ⟨a, ha, rfl⟩ := h2
    have hl := adrs_len n l1 h1
    by_cases c : i < l1.length
    · rw [List.getElem_append_left c]
      exact ih l1 h1 i c
    · rw [List.length_append] at hi
      have hin : i = n := by simp at hi; omega
      subst hin
      rw [List.getElem_append_right (by omega)]
      simpa [hl] using ha
theorem two64 (at_ i j : Nat) (h : (at_ + i) % 18446744073709551616 = (at_ + j) % 18446744073709551616) (hi : i < 4096) (hj : j < 4096) : i = j := by omega
theorem div_join (a b : Nat) (h1 : a / 256 = b / 256) (h2 : a % 256 = b % 256) : a = b := by omega
/-- no byte lies where another one does -/
theorem adrs_inj {F : Nat} {s : PS} {R : Roles} (h : WFS F s R) {root at_ acc n : Nat} (hr : R root = some (root, 3, 0)) (hn : n ≤ 4096) {ys : List Nat} (hy : adrs s.V F root at_ acc n = some ys) {i j : Nat} (hi : i < ys.length) (hj : j < ys.length) (e : ys[i] = ys[j]) : i = j := by
  have hl := adrs_len n ys hy
  obtain ⟨_, r1, m1⟩ := at_role2 h hr (adrs_get n ys hy i hi)
  obtain ⟨_, r2, m2⟩ := at_role2 h hr (adrs_get n ys hy j hj)
  rw [← e, r1] at r2
  have hp : ((at_ + i) % 18446744073709551616) / 256 = ((at_ + j) % 18446744073709551616) / 256 := by
    have := Option.some.inj r2
    exact congrArg (fun x : Nat × Nat × Nat => x.2.2) this
  rw [← e, m1] at m2
  exact two64 at_ i j (div_join _ _ hp m2) (by omega) (by omega)
theorem outV_get {V : Nat → Nat} {xs : List Nat} {s : ByteArray} (hinj : ∀ i j (hi : i < xs.length) (hj : j < xs.length), xs[i] = xs[j] → i = j) : ∀ n, n ≤ xs.length → ∀ i (_hi : i < n) (hx : i < xs.length), outV V xs s n xs[i] = byt s i
  | 0, _, i, hi, _ => by omega
  | n + 1, hn, i, hi, hx => by
    show putV (outV V xs s n) (xs.getD n 0) 1 (fun _ => byt s n) xs[i] = _
    have e : xs.getD n 0 = xs[n]'(by omega) := by rw [List.getD, List.getElem?_eq_getElem (by omega)]; rfl
    rw [e]
    unfold putV
    by_cases c : i = n
    · subst c
      rw [if_pos (by omega)]
    · have hne : xs[i] ≠ xs[n]'(by omega) := fun h => c (hinj i n hx (by omega) h)
      rw [if_neg (by omega)]
      exact outV_get hinj n (by omega) i (by omega) hx
end Go.Proofs.Ytodjmfmenfncdaa
