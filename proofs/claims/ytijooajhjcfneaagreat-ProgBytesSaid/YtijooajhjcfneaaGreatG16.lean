/-
  Several texts in one: RefTakes, SpMapAny, SpWr, RQ, RQ2, SpTab.
-/
import Derived.Test.YtijooajhjcfneaaGreatG15
namespace Go.Proofs.YtijooajhjcfneaaGreat
open Go.RowKit

theorem ref_takes (w : World) (F : Int) :
    Calls Tryz.prog 6 #[.int .i64 F] w fun e w' => e = .returned (.bool (decide (1 ≤ F ∧ F ≤ 256))) ∧ w = w' := by
  by_cases h1 : 1 ≤ F
  · have d1 : decide ((1 : Int) ≤ F) = true := decide_eq_true h1
    go_enter Tryz.func6, Tryz.ntmps6
    go_wp2_with fail
    go_ret
    exact ⟨ret_bool (by simp [h1]), rfl⟩
  · have d1 : decide ((1 : Int) ≤ F) = false := decide_eq_false h1
    go_enter Tryz.func6, Tryz.ntmps6
    go_wp2_with fail
    go_ret
    exact ⟨ret_bool (by simp), rfl⟩

end Go.Proofs.YtijooajhjcfneaaGreat

namespace Go.Proofs.YtijooajhjcfneaaGreat
open Go.RowKit

/-- what Map makes, and answers -/
def mapR (F : Nat) (s : PS) (root : Nat) (page : Int) (bits : Nat) : PS × Int :=
  if page < 0 ∨ 32768 ≤ page ∨ bits % 2 = 0 ∨ 31 < bits then (s, 1) else mapS F s root page.toNat bits
theorem sp_map_any {S : Nat → Prop} {w : World} {q p F : Nat} {s : PS} {R : Roles} (h : Pl S w q p F 0 s.Fr s.V) (hF : F ≤ 256) (hW : WFS F s R) (root : Nat) (page : Int) (bits : Nat) (hr : R root = some (root, 3, 0)) (hb : bits < 18446744073709551616) {s' : PS} {e : Int} (hs : mapR F s root page bits = (s', e)) :
    Calls Tryz.prog 55 #[.pointer (some ⟨q, 0, none⟩), .int .i64 root, .int .i64 page, .int .u64 bits] w (StepF S w q p F 0 s'.Fr s'.V (.int .i64 e)) := by
  have ht := hW.taken hr
  unfold mapR at hs
  by_cases c : page < 0 ∨ 32768 ≤ page ∨ bits % 2 = 0 ∨ 31 < bits
  · rw [if_pos c] at hs
    obtain ⟨rfl, rfl⟩ := Prod.mk.inj hs
    by_cases c1 : page < 0
    · exact sp_map_b h hF root page bits hb ht c1
    · by_cases c2 : 32768 ≤ page
      · exact sp_map_c h hF root page bits hb ht c2
      · by_cases c3 : bits % 2 = 0
        · exact sp_map_d h hF root page bits hb ht ⟨by omega, by omega⟩ c3
        · exact sp_map_e h hF root page bits hb ht ⟨by omega, by omega⟩ (by omega) (by omega)
  · rw [if_neg c] at hs
    obtain ⟨n, rfl⟩ := Int.eq_ofNat_of_zero_le (show 0 ≤ page by omega)
    rw [Int.toNat_natCast] at hs
    have k := sp_map h hF hW root n bits hr (by omega) (by omega) (by omega)
    rw [hs] at k
    exact k
/-- behind a page that was asked for: all is well, and as many frames are there -/
theorem good_mapR {F : Nat} (hF : F ≤ 256) {s : PS} {R : Roles} (g : SG F s R) {r bits : Nat} {page : Int} (hr : R r = some (r, 3, 0)) {s' : PS} {e : Int} (hs : mapR F s r page bits = (s', e)) :
    ∃ R', SG F s' R' ∧ (∀ f x, R f = some x → R' f = some x) ∧ s'.left F + cntN (hasB F R' r) = s.left F + cntN (hasB F R r) := by
  unfold mapR at hs
  by_cases c : page < 0 ∨ 32768 ≤ page ∨ bits % 2 = 0 ∨ 31 < bits
  · rw [if_pos c] at hs
    obtain ⟨rfl, rfl⟩ := Prod.mk.inj hs
    exact ⟨R, g, fun _ _ h => h, rfl⟩
  · rw [if_neg c] at hs
    have hb : bits < 32 := by omega
    have hb1 : bits % 2 = 1 := by omega
    have hp : page.toNat < 32768 := by omega
    clear c
    generalize page.toNat = n at *
    rcases mapS_cases hF g.wf g.full hr hp hb hb1 with ⟨h, _⟩ | ⟨h, _⟩ | ⟨_, _, R', l, _, m, hf, _⟩
    · rw [h] at hs; obtain ⟨rfl, rfl⟩ := Prod.mk.inj hs; exact ⟨R, g, fun _ _ h => h, rfl⟩
    · rw [h] at hs; obtain ⟨rfl, rfl⟩ := Prod.mk.inj hs; exact ⟨R, g, fun _ _ h => h, rfl⟩
    · rw [hs] at m; exact ⟨R', ⟨m.grow.wf, hf⟩, m.grow.sub, m.grow.cnt⟩

def BothR (B : Nat) (F : Nat) (e : Ending) (w' : World) (w : World) : Prop :=
  ∃ q p r, e = .returned (.tuple #[.pointer (some ⟨p, 0, none⟩), .pointer (some ⟨q, 0, none⟩), .pointer (some ⟨r, 0, none⟩)]) ∧ Pl (fun k => k < B) w' q p F 0 (frAll 0 F) (fun _ => 0) ∧ Below B w w'
end Go.Proofs.YtijooajhjcfneaaGreat

namespace Go.Proofs.YtijooajhjcfneaaGreat
open Go.RowKit

theorem ptsA (a : Nat) : a / 262144 % 32 = pt (a / 256) 2 ∧ a / 8192 % 32 = pt (a / 256) 1 ∧ a / 256 % 32 = pt (a / 256) 0 := by
  unfold pt
  refine ⟨?_, ?_, ?_⟩
  · rw [show 32 ^ 2 = 1024 from rfl]; omega
  · rw [Nat.pow_one]; omega
  · rw [Nat.pow_zero]; omega
theorem leaf_atA {F : Nat} {s : PS} {R : Roles} (h : WFS F s R) {root a g : Nat} (hr : R root = some (root, 3, 0)) (hp : a / 256 < 32768) (hg : R g = some (root, 0, a / 256)) :
    ∃ b, R b = some (root, 1, a / 256 / 32) ∧ tbLeaf s.V F root a = some (b * 256 + 8 * pt (a / 256) 0) ∧ kid s.V b (pt (a / 256) 0) = some g := by
  obtain ⟨p2, p1, p0⟩ := ptsA a
  obtain ⟨page, hpg⟩ : ∃ page, a / 256 = page := ⟨_, rfl⟩
  have p0 : a / 256 % 32 = pt page 0 := by rw [p0, hpg]
  rw [hpg] at p2 p1 hp hg ⊢
  have h0 : page / 32 ^ 0 = page := by rw [Nat.pow_zero, Nat.div_one]
  have h1 : page / 32 ^ (0 + 1) = page / 32 := by rw [Nat.zero_add, Nat.pow_one]
  have h3 : page / 32 ^ (2 + 1) = 0 := Nat.div_eq_of_lt (by omega)
  obtain ⟨b, hb⟩ := anc_of h hg (0 + 1) (by omega)
  obtain ⟨c, hc⟩ := anc_of h hg (1 + 1) (by omega)
  have k2 : kid s.V root (pt page (1 + 1)) = some c := kids_of (l := 1 + 1) h (by omega) (by rw [h3]; exact hr) hc
  have k1 : kid s.V c (pt page (0 + 1)) = some b := kids_of (l := 0 + 1) h (by omega) hc hb
  have k0 : kid s.V b (pt page 0) = some g := kids_of (l := 0) h (by omega) hb (by rw [h0]; exact hg)
  have g2 := tbGo_kid (l := 1 + 1) h hr (by omega) (pt_lt _ _) k2
  have g1 := tbGo_kid (l := 0 + 1) h hc (by omega) (pt_lt _ _) k1
  rw [h1] at hb
  exact ⟨b, hb, tbLeaf_of p2 p1 p0 g2 g1, k0⟩
theorem may23 {F e acc : Nat} (he : e % 1024 = 23) (hf : e / 1024 < F) (ha : acc = 1 ∨ acc = 2) : tbMay F e acc = true := by
  unfold tbMay
  rcases ha with rfl | rfl
  · exact decide_eq_true ⟨by omega, by omega, by rw [Nat.pow_one]; omega, hf⟩
  · exact decide_eq_true ⟨by omega, by omega, by rw [show 2 ^ 2 = 4 from rfl]; omega, hf⟩
/-- a page that is mapped for both is there for both -/
theorem tb_yes {F : Nat} {s : PS} {R : Roles} (h : WFS F s R) {root a g acc : Nat} (hr : R root = some (root, 3, 0)) (hb : AllBits s.V R root 23) (ha : a < 8388608) (hacc : acc = 1 ∨ acc = 2) (hg : R g = some (root, 0, a / 256)) : tbAt s.V F root a acc = some (g * 256 + a % 256) := by
  obtain ⟨b, h1, h2, h3⟩ := leaf_atA h hr (by omega) hg
  obtain ⟨o, d⟩ := kid_some h3
  have hbits := hb b _ _ h1 (pt_lt _ _) o
  have hm := may23 hbits (by rw [d]; exact h.lt _ _ hg) hacc
  unfold tbAt
  rw [if_neg (by omega)]
  unfold tbWalk
  rw [h2, Option.bind_some]
  have e : entV s.V (b * 256 + 8 * pt (a / 256) 0) = ent s.V b (pt (a / 256) 0) := rfl
  rw [e, if_pos hm, d]
theorem tbMay_some2 {F e acc off a : Nat} (hoff : off < 256) (h : (if tbMay F e acc = true then some (e / 1024 * 256 + off) else none) = some a) : e % 2 = 1 ∧ a / 256 = e / 1024 ∧ a % 256 = off := by
  obtain ⟨h1, h2⟩ := tbMay_some hoff h
  refine ⟨h1, h2, ?_⟩
  by_cases hm : tbMay F e acc = true
  · rw [if_pos hm] at h
    cases h
    omega
  · rw [if_neg hm] at h
    cases h
theorem page_parts (a : Nat) (ha : a < 8388608) : ((0 * 32 + a / 262144 % 32) * 32 + a / 8192 % 32) * 32 + a / 256 % 32 = a / 256 := by omega
theorem at_role2 {F : Nat} {s : PS} {R : Roles} (h : WFS F s R) {root a acc x : Nat} (hr : R root = some (root, 3, 0)) (hx : tbAt s.V F root a acc = some x) : a < 8388608 ∧ R (x / 256) = some (root, 0, a / 256) ∧ x % 256 = a % 256 := by
  unfold tbAt at hx
  by_cases c : 8388608 ≤ a
  · rw [if_pos c] at hx; cases hx
  · rw [if_neg c] at hx
    have hlt : a < 8388608 := by omega
    have hpp := page_parts a hlt
    unfold tbWalk tbLeaf at hx
    rw [Option.bind_eq_some_iff] at hx
    obtain ⟨y, hy, hx⟩ := hx
    rw [Option.bind_eq_some_iff] at hy
    obtain ⟨t2, q1, hy⟩ := hy
    rw [Option.map_eq_some_iff] at hy
    obtain ⟨t1, q2, rfl⟩ := hy
    obtain ⟨o1, d1⟩ := tbGo_some q1
    obtain ⟨o2, d2⟩ := tbGo_some q2
    have k1 : kid s.V root (a / 262144 % 32) = some t2 := by rw [kid_of_odd (show ent s.V root (a / 262144 % 32) % 2 = 1 from o1)]; exact congrArg some d1
    have r1 := (h.kid hr (mod32_lt _) k1).1
    have k2 : kid s.V t2 (a / 8192 % 32) = some t1 := by rw [kid_of_odd (show ent s.V t2 (a / 8192 % 32) % 2 = 1 from o2)]; exact congrArg some d2
    have r2 := (h.kid r1 (mod32_lt _) k2).1
    obtain ⟨o, d, m⟩ := tbMay_some2 (Nat.mod_lt _ (by decide)) hx
    have k0 := kid_of_odd (show ent s.V t1 (a / 256 % 32) % 2 = 1 from o)
    have r := (h.kid r2 (mod32_lt _) k0).1
    rw [show ent s.V t1 (a / 256 % 32) / 1024 = x / 256 from d.symm, hpp] at r
    exact ⟨hlt, r, m⟩
theorem tb_no {F : Nat} {s : PS} {R : Roles} (h : WFS F s R) {root a acc : Nat} (hr : R root = some (root, 3, 0)) (hn : ¬ (a < 8388608 ∧ hasB F R root 0 (a / 256) = true)) : tbAt s.V F root a acc = none := by
  rcases opt_cases (tbAt s.V F root a acc) with e | ⟨x, e⟩
  · exact e
  · obtain ⟨h1, h2, _⟩ := at_role2 h hr e
    exact absurd ⟨h1, (hasB_iff h.lt _ _ _).2 ⟨_, h2⟩⟩ hn
/-- may a byte be there? -/
def okB (F : Nat) (R : Roles) (root a : Nat) : Bool := decide (a < 8388608) && hasB F R root 0 (a / 256)
theorem tb_eq {F : Nat} {s s' : PS} {R : Roles} (h : WFS F s R) (h' : WFS F s' R) {root a acc acc' : Nat} (hr : R root = some (root, 3, 0)) (hb : AllBits s.V R root 23) (hb' : AllBits s'.V R root 23) (hacc : acc = 1 ∨ acc = 2) (hacc' : acc' = 1 ∨ acc' = 2) : tbAt s'.V F root a acc' = tbAt s.V F root a acc := by
  by_cases c : a < 8388608 ∧ hasB F R root 0 (a / 256) = true
  · obtain ⟨g, hg⟩ := (hasB_iff h.lt _ _ _).1 c.2
    rw [tb_yes h hr hb c.1 hacc hg, tb_yes h' hr hb' c.1 hacc' hg]
  · rw [tb_no h hr c, tb_no h' hr c]
theorem adrs_eq {V V' : Nat → Nat} {F root at_ acc acc' : Nat} (h : ∀ a, tbAt V' F root a acc' = tbAt V F root a acc) : ∀ n, adrs V' F root at_ acc' n = adrs V F root at_ acc n
  | 0 => rfl
  | n + 1 => by
    show (adrs V' F root at_ acc' n).bind _ = (adrs V F root at_ acc n).bind _
    rw [adrs_eq h n, h]
/-- all of them may be there -/
theorem adrs_some {F : Nat} {s : PS} {R : Roles} (h : WFS F s R) {root at_ acc : Nat} (hr : R root = some (root, 3, 0)) (hb : AllBits s.V R root 23) (hacc : acc = 1 ∨ acc = 2) : ∀ n, (∀ i, i < n → okB F R root ((at_ + i) % 18446744073709551616) = true) → ∃ ys, adrs s.V F root at_ acc n = some ys := by
  intro n
  induction n with
  | zero => intro _; exact ⟨[], rfl⟩
  | succ n ih =>
    intro hall
    obtain ⟨ys, hy⟩ := ih (fun i hi => hall i (by omega))
    have ho := hall n (by omega)
    unfold okB at ho
    rw [Bool.and_eq_true] at ho
    obtain ⟨g, hg⟩ := (hasB_iff h.lt _ _ _).1 ho.2
    exact ⟨_, adrs_step hy (tb_yes h hr hb (of_decide_eq_true ho.1) hacc hg)⟩
theorem adrs_no {F : Nat} {s : PS} {R : Roles} (h : WFS F s R) {root at_ acc i n : Nat} (hr : R root = some (root, 3, 0)) (hi : i < n) (ho : okB F R root ((at_ + i) % 18446744073709551616) = false) : adrs s.V F root at_ acc n = none := by
  have hn : tbAt s.V F root ((at_ + i) % 18446744073709551616) acc = none := tb_no h hr (fun c => by
    unfold okB at ho
    rw [decide_eq_true c.1, c.2] at ho
    cases ho)
  have h1 : adrs s.V F root at_ acc (i + 1) = none := by
    cases e : adrs s.V F root at_ acc i with
    | none => exact adrs_none i (i + 1) (by omega) e
    | some l => exact adrs_step_no e hn
  exact adrs_none (i + 1) n (by omega) h1
theorem adrs_get {V : Nat → Nat} {F root at_ acc : Nat} : ∀ n l, adrs V F root at_ acc n = some l → ∀ i (hi : i < l.length), tbAt V F root ((at_ + i) % 18446744073709551616) acc = some l[i] := by
  intro n
  induction n with
  | zero => intro l h i hi; cases h; cases hi
  | succ n ih =>
    intro l h i hi
    have h' : (adrs V F root at_ acc n).bind (fun l => (tbAt V F root ((at_ + n) % 18446744073709551616) acc).map fun a => l ++ [a]) = some l := h
    rw [Option.bind_eq_some_iff] at h'
    obtain ⟨l1, h1, h2⟩ := h'
    rw [Option.map_eq_some_iff] at h2
    obtain ⟨a, ha, rfl⟩ := h2
    have hl := adrs_len n l1 h1
    by_cases c : i < l1.length
    · rw [List.getElem_append_left c]
      exact ih l1 h1 i c
    · rw [List.length_append] at hi
      have hin : i = n := by simp at hi; omega
      subst hin
      rw [List.getElem_append_right (by omega)]
      simpa [hl] using ha
theorem two64 (at_ i j : Nat) (h : (at_ + i) % 18446744073709551616 = (at_ + j) % 18446744073709551616) (hi : i < 4096) (hj : j < 4096) : i = j := by omega
theorem div_join (a b : Nat) (h1 : a / 256 = b / 256) (h2 : a % 256 = b % 256) : a = b := by omega
/-- no byte lies where another one does -/
theorem adrs_inj {F : Nat} {s : PS} {R : Roles} (h : WFS F s R) {root at_ acc n : Nat} (hr : R root = some (root, 3, 0)) (hn : n ≤ 4096) {ys : List Nat} (hy : adrs s.V F root at_ acc n = some ys) {i j : Nat} (hi : i < ys.length) (hj : j < ys.length) (e : ys[i] = ys[j]) : i = j := by
  have hl := adrs_len n ys hy
  obtain ⟨_, r1, m1⟩ := at_role2 h hr (adrs_get n ys hy i hi)
  obtain ⟨_, r2, m2⟩ := at_role2 h hr (adrs_get n ys hy j hj)
  rw [← e, r1] at r2
  have hp : ((at_ + i) % 18446744073709551616) / 256 = ((at_ + j) % 18446744073709551616) / 256 := by
    have := Option.some.inj r2
    exact congrArg (fun x : Nat × Nat × Nat => x.2.2) this
  rw [← e, m1] at m2
  exact two64 at_ i j (div_join _ _ hp m2) (by omega) (by omega)
theorem outV_get {V : Nat → Nat} {xs : List Nat} {s : ByteArray} (hinj : ∀ i j (hi : i < xs.length) (hj : j < xs.length), xs[i] = xs[j] → i = j) : ∀ n, n ≤ xs.length → ∀ i (_hi : i < n) (hx : i < xs.length), outV V xs s n xs[i] = byt s i
  | 0, _, i, hi, _ => by omega
  | n + 1, hn, i, hi, hx => by
    show putV (outV V xs s n) (xs.getD n 0) 1 (fun _ => byt s n) xs[i] = _
    have e : xs.getD n 0 = xs[n]'(by omega) := by rw [List.getD, List.getElem?_eq_getElem (by omega)]; rfl
    rw [e]
    unfold putV
    by_cases c : i = n
    · subst c
      rw [if_pos (by omega)]
    · have hne : xs[i] ≠ xs[n]'(by omega) := fun h => c (hinj i n hx (by omega) h)
      rw [if_neg (by omega)]
      exact outV_get hinj n (by omega) i (by omega) hx
end Go.Proofs.YtijooajhjcfneaaGreat

namespace Go.Proofs.YtijooajhjcfneaaGreat
open Go.RowKit

theorem tkn_take (Fr : Nat → Bool) (first F L : Nat) (h1 : first ≤ L) (h2 : L < F) : setF (tkn Fr first F) L true = tkn (setF Fr L false) first F := by
  funext g
  unfold setF tkn
  by_cases e : g = L
  · subst e; simp [h1, h2]
  · simp [e]
theorem tkn_give (Fr : Nat → Bool) (first F L : Nat) : setF (tkn Fr first F) L false = tkn (setF Fr L true) first F := by
  funext g
  unfold setF tkn
  by_cases e : g = L
  · subst e; simp
  · simp [e]
theorem tkn_all (first F : Nat) : (fun _ => false) = tkn (frAll first F) first F := by
  funext g
  unfold tkn frAll
  simp
theorem tkn_left (Fr : Nat → Bool) (first F : Nat) : cnt (fun f => !tkn Fr first F f) first (F - first) = cnt Fr first (F - first) := cnt_congr _ fun i hi => by
  unfold tkn
  rw [decide_eq_true (by omega)]
  simp
theorem tkn_taken (Fr : Nat → Bool) (first F : Nat) (f : Int) : (decide ((first : Int) ≤ f ∧ f < (F : Int)) && tkn Fr first F f.toNat) = (decide ((first : Int) ≤ f ∧ f < (F : Int)) && !Fr f.toNat) := by
  by_cases h : (first : Int) ≤ f ∧ f < (F : Int)
  · unfold tkn
    rw [decide_eq_true (show first ≤ f.toNat ∧ f.toNat < F by omega)]; simp
  · rw [decide_eq_false h]; rfl
theorem tkn_free {Fr : Nat → Bool} {F f : Nat} (h : Fr f = true) : tkn Fr 0 F f = false := by unfold tkn; rw [h]; simp
theorem tkn_gone {Fr : Nat → Bool} {F f : Nat} (hf : f < F) (h : Fr f = false) : tkn Fr 0 F f = true := by unfold tkn; rw [h, decide_eq_true (show 0 ≤ f ∧ f < F from ⟨Nat.zero_le _, hf⟩)]; rfl

def RQ (S : Nat → Prop) (w : World) (rq r F : Nat) (Fr : Nat → Bool) (U : Nat → Nat) : Prop :=
  ∃ hd g u, u < 18446744073709551616 ∧ RPool w rq hd r g F 0 (tkn Fr 0 F) U u ∧ (∀ k, RpOwn rq hd r g k → ¬ S k) ∧ ∀ k, S k → k < w.heap.size
def StepQ (S : Nat → Prop) (w : World) (rq r F : Nat) (Fr : Nat → Bool) (U : Nat → Nat) (v : Value) (e : Ending) (w' : World) : Prop := e = .returned v ∧ RQ S w' rq r F Fr U ∧ Chg (fun k => ¬ S k) w w'
theorem RQ.nothing {S : Nat → Prop} {w w' : World} {rq r F : Nat} {Fr : Nat → Bool} {U : Nat → Nat} (h : RQ S w rq r F Fr U) (c : Chg (fun _ => False) w w') : RQ S w' rq r F Fr U := by
  obtain ⟨hd, g, u, hu, hp, hn, hS⟩ := h
  exact ⟨hd, g, u, hu, hp.chg c (fun _ _ h => h), hn, fun k h => Nat.lt_of_lt_of_le (hS k h) c.size⟩
theorem RQ.drew {S : Nat → Prop} {w : World} {rq r F : Nat} {Fr : Nat → Bool} {U : Nat → Nat} (h : RQ S w rq r F Fr U) : RQ S w.drew rq r F Fr U := h.nothing (Chg.refl _ _).drew
theorem RQ.lt {S : Nat → Prop} {w : World} {rq r F : Nat} {Fr : Nat → Bool} {U : Nat → Nat} (h : RQ S w rq r F Fr U) : ∀ k, S k → k < w.heap.size := by
  obtain ⟨hd, g, u, hu, hp, hn, hS⟩ := h
  exact hS
theorem RQ.weak {S S' : Nat → Prop} {w : World} {rq r F : Nat} {Fr : Nat → Bool} {U : Nat → Nat} (h : RQ S w rq r F Fr U) (hs : ∀ k, S' k → S k) : RQ S' w rq r F Fr U := by
  obtain ⟨hd, g, u, hu, hp, hn, hS⟩ := h
  exact ⟨hd, g, u, hu, hp, fun k a c => hn k a (hs k c), fun k a => hS k (hs k a)⟩
theorem RQ.beside {S S' T : Nat → Prop} {w w' : World} {rq r F : Nat} {Fr : Nat → Bool} {U : Nat → Nat} (h : RQ S w rq r F Fr U) (c : Chg T w w') (hT : ∀ k, T k → S k) (hS' : ∀ k, S' k → S k ∨ w.heap.size ≤ k) (hlt : ∀ k, S' k → k < w'.heap.size) : RQ S' w' rq r F Fr U := by
  obtain ⟨hd, g, u, hu, hp, hn, hS⟩ := h
  refine ⟨hd, g, u, hu, hp.chg c (fun k a d => hn k a (hT k d)), fun k a d => ?_, hlt⟩
  rcases hS' k d with e | e
  · exact hn k a e
  · have := hp.lt k a; omega
theorem RQ.step {S : Nat → Prop} {w w' : World} {rq hd r g F u : Nat} {Fr' : Nat → Bool} {U' : Nat → Nat} {v : Value} {e : Ending} (hu : u < 18446744073709551616) (hn : ∀ k, RpOwn rq hd r g k → ¬ S k) (hS : ∀ k, S k → k < w.heap.size) (k : RpK w rq hd r g F 0 (tkn Fr' 0 F) U' u v e w') : StepQ S w rq r F Fr' U' v e w' :=
  ⟨k.1, ⟨hd, g, u, hu, k.2.1, hn, fun j h => Nat.lt_of_lt_of_le (hS j h) k.2.2.size⟩, k.2.2.mono hn⟩
theorem RQ.small {S : Nat → Prop} {w : World} {rq r F : Nat} {Fr : Nat → Bool} {U : Nat → Nat} (h : RQ S w rq r F Fr U) : ∀ i, U i < 256 := by
  obtain ⟨hd, g, u, hu, hp, hn, hS⟩ := h
  exact hp.mem.small
/-- the memory of the document's pool alone -/
theorem RQ.M {S : Nat → Prop} {w : World} {rq r F : Nat} {Fr : Nat → Bool} {U : Nat → Nat} (h : RQ S w rq r F Fr U) :
    ∃ S' : Nat → Prop, (∀ k, S k → S' k) ∧ RX S' w r F U ∧ ∀ w' U', RX S' w' r F U' → Chg (fun k => ¬ S' k) w w' → RQ S w' rq r F Fr U' := by
  obtain ⟨hd, g, u, hu, hp, hn, hS⟩ := h
  have l1 := hp.blk.lt
  have l2 := hp.had.lt
  have a1 := hp.a1; have a2 := hp.a2; have a3 := hp.a3; have a4 := hp.a4; have a5 := hp.a5
  refine ⟨fun k => S k ∨ k = rq ∨ k = hd, fun k h => .inl h, ⟨g, u, hu, hp.mem, ?_, ?_, fun k a => ?_⟩, fun w' U' hy c => ?_⟩
  · rintro (a | a | a)
    · exact hn r (.inr (.inr (.inl rfl))) a
    · exact a2 a.symm
    · exact a4 a.symm
  · rintro (a | a | a)
    · exact hn g (.inr (.inr (.inr rfl))) a
    · exact a3 a.symm
    · exact a5 a.symm
  · rcases a with a | rfl | rfl
    · exact hS k a
    · exact l1
    · exact l2
  · obtain ⟨g', u', hu', hm', hr', hg', hS'⟩ := hy
    refine ⟨hd, g', u', hu', ⟨hm', c.blk hp.blk (fun a => a (.inr (.inl rfl))), hp.had.chg c (fun a => a (.inr (.inr rfl))), a1, fun e => hr' (.inr (.inl e.symm)), fun e => hg' (.inr (.inl e.symm)), fun e => hr' (.inr (.inr e.symm)), fun e => hg' (.inr (.inr e.symm)), hp.le⟩, ?_, fun k a => hS' k (.inl a)⟩
    rintro k (rfl | rfl | rfl | rfl)
    · exact hn _ (.inl rfl)
    · exact hn _ (.inr (.inl rfl))
    · exact fun a => hr' (.inl a)
    · exact fun a => hg' (.inl a)
theorem RQ.mem {S : Nat → Prop} {w : World} {rq r F : Nat} {Fr : Nat → Bool} {U U' : Nat → Nat} {P : Program} {f : FuncId} {args : Array Value} {v : Value} (h : RQ S w rq r F Fr U) (c : ∀ S', RX S' w r F U → Calls P f args w (StepR S' w r F U' v)) : Calls P f args w (StepQ S w rq r F Fr U' v) := by
  obtain ⟨S', hs, hy, back⟩ := h.M
  exact (c S' hy).mono fun _ w' ⟨h1, h2, h3⟩ => ⟨h1, back w' U' h2 h3, h3.mono fun k a b => a (hs k b)⟩
theorem RQ.cell {S : Nat → Prop} {w : World} {rq r F : Nat} {Fr : Nat → Bool} {U : Nat → Nat} (h : RQ S w rq r F Fr U) : w.cell? ⟨rq, 0, none⟩ = some (.pointer (some ⟨r, 0, none⟩)) := by
  obtain ⟨hd, g, u, hu, hp, hn, hS⟩ := h
  exact hp.blk.cellv 0 _ rfl
theorem q_taken {S : Nat → Prop} {w : World} {rq r F : Nat} {Fr : Nat → Bool} {U : Nat → Nat} (h : RQ S w rq r F Fr U) (hF : F ≤ 256) (f : Int) :
    Calls Tryz.prog 63 #[.pointer (some ⟨rq, 0, none⟩), .int .i64 f] w fun e w' => e = .returned (.bool (decide (((0 : Nat) : Int) ≤ f ∧ f < (F : Int)) && !Fr f.toNat)) ∧ w = w' := by
  obtain ⟨hd, g, u, hu, hp, hn, hS⟩ := h
  rw [← tkn_taken Fr 0 F f]
  exact rp_taken w rq hd r g F 0 u hF _ U hp f
theorem q_take {S : Nat → Prop} {w : World} {rq r F : Nat} {s : PS} (h : RQ S w rq r F s.Fr s.V) (hF : F ≤ 256) (hc : 0 < s.left F) :
    Calls Tryz.prog 13 #[.pointer (some ⟨rq, 0, none⟩)] w (StepQ S w rq r F (s.take F).Fr (s.take F).V (.tuple #[.int .i64 (s.top F : Nat), .int .i64 0])) := by
  obtain ⟨hd, g, u, hu, hp, hn, hS⟩ := h
  have hl : s.top F < F := lst_lt hc
  have k := rp_take_some w rq hd r g F 0 u hF _ s.V hp (s.top F) (Nat.zero_le _) hl (tkn_free (lst_some s.Fr F hl)) (fun j _ hj => tkn_gone (Nat.lt_trans hj hl) (lst_none s.Fr F j hj))
  rw [tkn_take s.Fr 0 F (s.top F) (Nat.zero_le _) hl] at k
  exact k.mono fun _ _ k => RQ.step hu hn hS k
theorem q_take_none {S : Nat → Prop} {w : World} {rq r F : Nat} {s : PS} (h : RQ S w rq r F s.Fr s.V) (hF : F ≤ 256) (hc : s.left F = 0) :
    Calls Tryz.prog 13 #[.pointer (some ⟨rq, 0, none⟩)] w (StepQ S w rq r F s.Fr s.V (.tuple #[.int .i64 0, .int .i64 4])) := by
  have h' := h
  obtain ⟨hd, g, u, hu, hp, hn, hS⟩ := h
  exact (rp_take_none w rq hd r g F 0 u hF _ s.V hp (fun j _ hj => tkn_gone hj (by have := cnt_none F hc j hj; rwa [Nat.zero_add] at this))).mono fun _ _ ⟨h1, h2⟩ => by subst h2; exact ⟨h1, h', Chg.refl _ _⟩
theorem q_left {S : Nat → Prop} {w : World} {rq r F : Nat} {s : PS} (h : RQ S w rq r F s.Fr s.V) (hF : F ≤ 256) :
    Calls Tryz.prog 17 #[.pointer (some ⟨rq, 0, none⟩)] w fun e w' => e = .returned (.int .i64 (s.left F : Nat)) ∧ w = w' := by
  obtain ⟨hd, g, u, hu, hp, hn, hS⟩ := h
  have k := rp_left w rq hd r g F 0 u hF _ s.V hp
  rw [tkn_left s.Fr 0 F] at k
  exact k
theorem q_load8 {S : Nat → Prop} {w : World} {rq r F : Nat} {Fr : Nat → Bool} {U : Nat → Nat} (h : RQ S w rq r F Fr U) (hF : F ≤ 256) (a : Nat) (ha : a + 8 ≤ F * 256) (x : Int) (hx : x = (a : Int)) :
    Calls Tryz.prog 74 #[.pointer (some ⟨r, 0, none⟩), .int .u64 x, .int .i64 8] w (StepQ S w rq r F Fr U (.tuple #[.int .u64 (entV U a : Nat), .int .i64 0])) := h.mem fun _ h => rx_load8 h hF a ha x hx
theorem q_store8 {S : Nat → Prop} {w : World} {rq r F : Nat} {Fr : Nat → Bool} {U : Nat → Nat} (h : RQ S w rq r F Fr U) (hF : F ≤ 256) (a : Nat) (ha : a + 8 ≤ F * 256) (v : Nat) (hv : v < 18446744073709551616) (x y : Int) (hx : x = (a : Int)) (hy : y = (v : Int)) :
    Calls Tryz.prog 64 #[.pointer (some ⟨r, 0, none⟩), .int .u64 x, .int .i64 8, .int .u64 y] w (StepQ S w rq r F Fr (stV F U a 8 v) (.int .i64 0)) := by
  subst hy
  have e : cdL F a 8 = 0 := cdL8 ha
  have k := fun S' (h' : RX S' w r F U) => rx_store h' hF a (by omega) 8 v hv x hx
  rw [e] at k
  exact h.mem k
theorem q_copyf {S : Nat → Prop} {w : World} {rq r F : Nat} {Fr : Nat → Bool} {U : Nat → Nat} (h : RQ S w rq r F Fr U) (hF : F ≤ 256) (a b : Int) (hb : 0 ≤ b) :
    Calls Tryz.prog 33 #[.pointer (some ⟨r, 0, none⟩), .int .i64 a, .int .i64 b] w (StepQ S w rq r F Fr (cpV F U a b) (.int .i64 (cdC F a b))) := h.mem fun _ h => rx_copy h hF a b hb
theorem q_wk {S : Nat → Prop} {w : World} {rq r F : Nat} {Fr : Nat → Bool} {U : Nat → Nat} (h : RQ S w rq r F Fr U) (hF : F ≤ 256) (root : Int) (at_ : Nat) (acc : Int) :
    Calls Tryz.prog 37 #[.pointer (some ⟨r, 0, none⟩), .int .i64 root, .int .u64 at_, .int .i64 acc] w (StepQ S w rq r F Fr U (wkR U F root at_ acc)) := h.mem fun S' h => rwk_all S' w r F U h hF root at_ acc
theorem q_lf {S : Nat → Prop} {w : World} {rq r F : Nat} {Fr : Nat → Bool} {U : Nat → Nat} (h : RQ S w rq r F Fr U) (hF : F ≤ 256) (root : Int) (at_ : Nat) :
    Calls Tryz.prog 67 #[.pointer (some ⟨r, 0, none⟩), .int .i64 root, .int .u64 at_] w (StepQ S w rq r F Fr U (lfR U F root at_)) := h.mem fun S' h => rlf_all S' w r F U h hF root at_
end Go.Proofs.YtijooajhjcfneaaGreat

namespace Go.Proofs.YtijooajhjcfneaaGreat
open Go.RowKit

theorem re_entry (w : World) (f b : Nat) (hf : f < 256) (hb : b < 1024) (x y : Int) (hx : x = (f : Int)) (hy : y = (b : Int)) :
    Calls Tryz.prog 65 #[.int .i64 x, .int .u64 y] w fun e w' => e = .returned (.int .u64 (f * 1024 + b : Nat)) ∧ w = w' := by
  subst hx hy
  have d1 : decide ((f : Int) < (0 : Int)) = false := decide_eq_false (by omega)
  have q0 : IntKind.u64.wrap (f : Int) = (f : Int) := u64_wrap_lt f (by omega)
  have q1 : IntKind.u64.wrap ((f : Int) * 1024) = ((f * 1024 : Nat) : Int) := by rw [u64_wrap]; omega
  have q2 : (b : Int).tmod 1024 = (b : Int) := by rw [Int.tmod_eq_emod_of_nonneg (by omega)]; omega
  have q3 : (b : Int) % 1024 = (b : Int) := by omega
  have q4 : IntKind.u64.wrap (b : Int) = (b : Int) := u64_wrap_lt b (by omega)
  have q5 : IntKind.u64.wrap (((f * 1024 : Nat) : Int) + (b : Int)) = ((f * 1024 + b : Nat) : Int) := by rw [u64_wrap]; omega
  obtain ⟨g, hg⟩ : ∃ g, g = f * 1024 := ⟨_, rfl⟩
  rw [← hg] at q1 q5 ⊢
  have q6 : (f : Int) * 1024 = (g : Int) := by omega
  have q7 : IntKind.u64.wrap (g : Int) = (g : Int) := u64_wrap_lt g (by omega)
  clear hg hf hb
  go_enter Tryz.func65, Tryz.ntmps65
  go_wp2_with fail
  go_ret
  exact ⟨by simp, rfl⟩
theorem ld_wraps (t k : Nat) (ht : t < 256) (hk : k < 32) : wrap64 (256 * (t : Int)) = 256 * (t : Int) ∧ wrap64 (8 * (k : Int)) = 8 * (k : Int) ∧ wrap64 (256 * (t : Int) + 8 * (k : Int)) = 256 * (t : Int) + 8 * (k : Int) ∧ IntKind.i64.wrap (256 * (t : Int)) = 256 * (t : Int) ∧ IntKind.i64.wrap (8 * (k : Int)) = 8 * (k : Int) ∧ IntKind.i64.wrap (256 * (t : Int) + 8 * (k : Int)) = 256 * (t : Int) + 8 * (k : Int) ∧ IntKind.u64.wrap (256 * (t : Int) + 8 * (k : Int)) = ((t * 256 + 8 * k : Nat) : Int) := by
  refine ⟨?_, ?_, ?_, i64_wrap_eq rfl (by omega), i64_wrap_eq rfl (by omega), i64_wrap_eq rfl (by omega), ?_⟩
  · unfold wrap64; omega
  · unfold wrap64; omega
  · unfold wrap64; omega
  · rw [u64_wrap]; omega
set_option maxRecDepth 100000 in
theorem q_load {S : Nat → Prop} {w : World} {rq r F : Nat} {Fr : Nat → Bool} {U : Nat → Nat} (h : RQ S w rq r F Fr U) (hF : F ≤ 256) (t k : Nat) (ht : t < F) (hk : k < 32) :
    Calls Tryz.prog 46 #[.pointer (some ⟨rq, 0, none⟩), .int .i64 t, .int .i64 k] w (StepQ S w rq r F Fr U (.int .u64 (ent U t k : Nat))) := by
  have c0 := h.cell
  have KL := q_load8 h hF (t * 256 + 8 * k) (Each1.fit8 ht hk) _ rfl
  rw [show entV U (t * 256 + 8 * k) = ent U t k from rfl] at KL
  generalize ent U t k = y at *
  obtain ⟨n1, n2, n3, n4, n5, n6, n7⟩ := ld_wraps t k (by omega) hk
  obtain ⟨a, ha⟩ : ∃ a, a = t * 256 + 8 * k := ⟨_, rfl⟩
  rw [← ha] at KL n7
  have KL := Lib.hid KL
  clear h hF ht hk ha
  go_enter Tryz.func46, Tryz.ntmps46
  go_wp2_with fail
  refine KL.out.mono ?_
  rintro e w1 ⟨rfl, m1, c1⟩
  have M1 := Lib.hid (And.intro m1 c1); clear m1 c1
  go_wp2_with fail
  go_ret
  exact ⟨rfl, M1.out⟩
/-- a frame, or below 0 -/
def nxV : Option Nat → Int
  | none => -1
  | some f => (f : Int)
theorem two_cases (y : Nat) : y % 2 = 0 ∨ y % 2 = 1 := by omega
theorem rem_two (y b : Nat) (h : y % 2 = b) : (y : Int).tmod 2 = (b : Int) ∧ (y : Int) % 2 = (b : Int) := by
  have h2 : (y : Int) % 2 = (b : Int) := by omega
  exact ⟨by rw [Int.tmod_eq_emod_of_nonneg (by omega)]; exact h2, h2⟩
theorem quo1024 (y : Nat) (hy : y < 18446744073709551616) : wrap64 ((y / 1024 : Nat) : Int) = ((y / 1024 : Nat) : Int) ∧ IntKind.i64.wrap ((y / 1024 : Nat) : Int) = ((y / 1024 : Nat) : Int) := by
  refine ⟨?_, i64_wrap_eq rfl (by omega)⟩
  unfold wrap64; omega
set_option maxRecDepth 100000 in
theorem q_next {S : Nat → Prop} {w : World} {rq r F : Nat} {Fr : Nat → Bool} {U : Nat → Nat} (h : RQ S w rq r F Fr U) (hF : F ≤ 256) (t k : Nat) (ht : t < F) (hk : k < 32) :
    Calls Tryz.prog 45 #[.pointer (some ⟨rq, 0, none⟩), .int .i64 t, .int .i64 k] w (StepQ S w rq r F Fr U (.int .i64 (nxV (kid U t k)))) := by
  have KL := q_load h hF t k ht hk
  have hy := ent_lt U t k
  have d0 : decide ((t : Int) < (0 : Int)) = false := decide_eq_false (by omega)
  unfold kid
  generalize ent U t k = y at *
  have KF := fun W => rw_frame W y hy
  have KL := Lib.hid KL; have KF := Lib.hid KF
  obtain ⟨q1, q2⟩ := quo1024 y hy
  obtain ⟨f, hf⟩ : ∃ f, f = y / 1024 := ⟨_, rfl⟩
  rw [← hf] at KF q1 q2 ⊢
  rcases two_cases y with e | e
  · obtain ⟨r1, r2⟩ := rem_two y 0 e
    rw [if_neg (by omega)]
    clear h hF ht hk hy hf e q1 q2
    go_enter Tryz.func45, Tryz.ntmps45
    go_wp2_with fail
    refine KL.out.mono ?_
    rintro e w1 ⟨rfl, m1, c1⟩
    have M1 := Lib.hid (And.intro m1 c1); clear m1 c1
    go_wp2_with fail
    go_ret
    exact ⟨rfl, M1.out⟩
  · obtain ⟨r1, r2⟩ := rem_two y 1 e
    rw [if_pos e]
    clear h hF ht hk hy hf e
    go_enter Tryz.func45, Tryz.ntmps45
    go_wp2_with fail
    refine KL.out.mono ?_
    rintro e w1 ⟨rfl, m1, c1⟩
    have M1 := Lib.hid (And.intro m1 c1); clear m1 c1
    go_wp2_with fail
    refine (KF.out w1).mono ?_
    rintro e w' ⟨rfl, rfl⟩
    go_wp2_with fail
    go_ret
    exact ⟨rfl, M1.out⟩
theorem q_next_no (w : World) (rq : Nat) (k : Int) :
    Calls Tryz.prog 45 #[.pointer (some ⟨rq, 0, none⟩), .int .i64 (-1), .int .i64 k] w fun e w' => e = .returned (.int .i64 (-1)) ∧ w = w' := by
  go_enter Tryz.func45, Tryz.ntmps45
  go_wp2_with fail
  go_ret
  exact ⟨rfl, rfl⟩
end Go.Proofs.YtijooajhjcfneaaGreat

namespace Go.Proofs.YtijooajhjcfneaaGreat
open Go.RowKit

/-- the visits of pages alone -/
def pgV (l : List (Int × Nat)) : List (Int × Nat) := l.filter fun v => decide (0 ≤ v.1)
theorem pgV_append (a b : List (Int × Nat)) : pgV (a ++ b) = pgV a ++ pgV b := List.filter_append ..
theorem pgV_pos {v : Int × Nat} (l : List (Int × Nat)) (h : 0 ≤ v.1) : pgV (v :: l) = v :: pgV l := List.filter_cons_of_pos (by simpa using h)
theorem pgV_neg {v : Int × Nat} (l : List (Int × Nat)) (h : v.1 < 0) : pgV (v :: l) = pgV l := List.filter_cons_of_neg (by simp; omega)
/-- the tables, each ahead of what is below it -/
def tabE (V : Nat → Nat) : Nat → Nat → Nat → Nat → List Nat
  | 0, _, _, _ => []
  | l + 1, t, first, k => if ent V t k % 2 = 1 then (ent V t k / 1024) :: ((List.range 32).flatMap (tabE V l (ent V t k / 1024) (first * 32 + k))) else []
def tabT (V : Nat → Nat) (l t first n : Nat) : List Nat := (List.range n).flatMap (tabE V l t first)
theorem tabT_zero (V : Nat → Nat) (l t first : Nat) : tabT V l t first 0 = [] := rfl
theorem tabT_succ (V : Nat → Nat) (l t first n : Nat) : tabT V l t first (n + 1) = tabT V l t first n ++ tabE V l t first n := by
  unfold tabT
  rw [List.range_succ, List.flatMap_append]
  simp
theorem tabE_no {V : Nat → Nat} {l t first k : Nat} (h : ent V t k % 2 = 0) : tabE V l t first k = [] := by
  cases l with
  | zero => rfl
  | succ l => rw [tabE, if_neg (by omega)]
theorem tabE_page (V : Nat → Nat) (t first k : Nat) : tabE V 0 t first k = [] := rfl
theorem tabE_table {V : Nat → Nat} {l t first k : Nat} (h : ent V t k % 2 = 1) : tabE V (l + 1) t first k = (ent V t k / 1024) :: tabT V l (ent V t k / 1024) (first * 32 + k) 32 := by rw [tabE, if_pos h]; rfl
theorem mem_tabT {V : Nat → Nat} {l t first n f : Nat} : f ∈ tabT V l t first n ↔ ∃ k, k < n ∧ f ∈ tabE V l t first k := by
  unfold tabT
  rw [List.mem_flatMap]
  constructor
  · rintro ⟨k, hk, hv⟩
    exact ⟨k, List.mem_range.1 hk, hv⟩
  · rintro ⟨k, hk, hv⟩
    exact ⟨k, List.mem_range.2 hk, hv⟩
/-- the tables are the visits that are no pages -/
theorem mem_tabE {V : Nat → Nat} {f : Nat} : ∀ l t first k, f ∈ tabE V l t first k ↔ ∃ v ∈ visE V l t first k, v.1 < 0 ∧ v.2 / 1024 = f := by
  intro l
  induction l with
  | zero =>
    intro t first k
    rw [tabE_page]
    constructor
    · intro h; cases h
    · rintro ⟨v, hv, h1, _⟩
      rcases odd_cases V t k with e | e
      · rw [visE_no e] at hv; cases hv
      · rw [visE_page e] at hv
        rw [List.mem_singleton.1 hv] at h1
        exact absurd h1 (by show ¬ ((first * 32 + k : Nat) : Int) < 0; omega)
  | succ l ih =>
    intro t first k
    rcases odd_cases V t k with e | e
    · rw [tabE_no e, visE_no e]
      constructor
      · intro h; cases h
      · rintro ⟨v, hv, _⟩; cases hv
    · rw [tabE_table e, visE_table e, List.mem_cons, mem_tabT]
      constructor
      · rintro (h | ⟨j, hj, h⟩)
        · exact ⟨(-1, ent V t k), List.mem_append_right _ (List.mem_singleton.2 rfl), (show (-1 : Int) < 0 by decide), h.symm⟩
        · obtain ⟨v, hv, h1, h2⟩ := (ih _ _ j).1 h
          exact ⟨v, List.mem_append_left _ (mem_visT.2 ⟨j, hj, hv⟩), h1, h2⟩
      · rintro ⟨v, hv, h1, h2⟩
        rcases List.mem_append.1 hv with hv | hv
        · obtain ⟨j, hj, hv⟩ := mem_visT.1 hv
          exact .inr ⟨j, hj, (ih _ _ j).2 ⟨v, hv, h1, h2⟩⟩
        · rw [List.mem_singleton.1 hv] at h2
          exact .inl h2.symm
theorem len_tabT {V : Nat → Nat} {l t first : Nat} (h : ∀ k, (pgV (visE V l t first k)).length + (tabE V l t first k).length = (visE V l t first k).length) : ∀ n, (pgV (visT V l t first n)).length + (tabT V l t first n).length = (visT V l t first n).length := by
  intro n
  induction n with
  | zero => rfl
  | succ n ih =>
    have hn := h n
    rw [visT_succ, tabT_succ, pgV_append, List.length_append, List.length_append, List.length_append]
    omega
theorem len_tabE {V : Nat → Nat} : ∀ l t first k, (pgV (visE V l t first k)).length + (tabE V l t first k).length = (visE V l t first k).length := by
  intro l
  induction l with
  | zero =>
    intro t first k
    rw [tabE_page]
    rcases odd_cases V t k with e | e
    · rw [visE_no e]; rfl
    · rw [visE_page e]
      rw [pgV_pos [] (show (0 : Int) ≤ ((first * 32 + k : Nat) : Int) by omega)]
      rfl
  | succ l ih =>
    intro t first k
    rcases odd_cases V t k with e | e
    · rw [tabE_no e, visE_no e]; rfl
    · have h := len_tabT (V := V) (l := l) (t := ent V t k / 1024) (first := first * 32 + k) (fun j => ih _ _ j) 32
      have hp : (pgV [((-1 : Int), ent V t k)]).length = 0 := by
        unfold pgV
        rw [List.filter_cons_of_neg (by simp), List.filter_nil]
        rfl
      rw [tabE_table e, visE_table e, pgV_append, List.length_append, List.length_append, List.length_cons, hp, List.length_singleton]
      omega
theorem vis_parts (V : Nat → Nat) (root : Nat) : (pgV (visT V 2 root 0 32)).length + (tabT V 2 root 0 32).length = (visT V 2 root 0 32).length := len_tabT (fun k => len_tabE 2 root 0 k) 32
/-- a copy asks the pages alone -/
theorem cpAll_pages (F too : Nat) : ∀ (l : List (Int × Nat)) (s : PS), cpAll F too s l = cpAll F too s (pgV l)
  | [], _ => rfl
  | v :: l, s => by
    show cpAll F too (cpStep F too s v) l = _
    by_cases h : 0 ≤ v.1
    · have e : pgV (v :: l) = v :: pgV l := List.filter_cons_of_pos (by simpa using h)
      rw [e]
      exact cpAll_pages F too l (cpStep F too s v)
    · have e : pgV (v :: l) = pgV l := List.filter_cons_of_neg (by simpa using h)
      rw [e, cpStep_neg F too s v (by omega)]
      exact cpAll_pages F too l s
/-- all frames of a space but the root: pages, then tables -/
theorem give_same (V : Nat → Nat) (root f : Nat) : (f ∈ frs (pgV (visT V 2 root 0 32)) ++ tabT V 2 root 0 32) ↔ f ∈ frs (visT V 2 root 0 32) := by
  rw [List.mem_append, mem_tabT]
  constructor
  · rintro (h | ⟨k, hk, h⟩)
    · obtain ⟨v, hv, e⟩ := mem_frs.1 h
      exact mem_frs.2 ⟨v, (List.mem_filter.1 hv).1, e⟩
    · obtain ⟨v, hv, _, e⟩ := (mem_tabE 2 root 0 k).1 h
      exact mem_frs.2 ⟨v, mem_visT.2 ⟨k, hk, hv⟩, e⟩
  · intro h
    obtain ⟨v, hv, e⟩ := mem_frs.1 h
    by_cases c : 0 ≤ v.1
    · exact .inl (mem_frs.2 ⟨v, List.mem_filter.2 ⟨hv, by simpa using c⟩, e⟩)
    · obtain ⟨k, hk, hv⟩ := mem_visT.1 hv
      exact .inr ⟨k, hk, (mem_tabE 2 root 0 k).2 ⟨v, hv, by omega, e⟩⟩
end Go.Proofs.YtijooajhjcfneaaGreat
