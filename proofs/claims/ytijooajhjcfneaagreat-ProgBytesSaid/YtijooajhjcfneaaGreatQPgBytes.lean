/-
  What stands in a program's space, in plain numbers: page by page, byte by byte.
-/
import Derived.Test.YtijooajhjcfneaaGreatQPgQPage
namespace Go.Proofs.YtijooajhjcfneaaGreat
open Go.RowKit

theorem mapGo_keep {F : Nat} (hF : F ≤ 256) (page bits r : Nat) (hb : bits < 32) (hb1 : bits % 2 = 1) : ∀ (l : Nat) (s : PS) (R : Roles) (t : Nat), WFS F s R → R t = some (r, l + 1, page / 32 ^ (l + 1)) → kid s.V t (pt page l) = none → l + 1 ≤ s.left F →
    ∀ t' x k, R t' = some x → k < 32 → ent s.V t' k % 2 = 1 → ent (mapGo F page bits s l t).V t' k = ent s.V t' k := by
  intro l
  induction l with
  | zero =>
    intro s R t h ht hk hc t' x k ht' hk' he'
    rw [mapGo_zero]
    have he := kid_none.1 hk
    obtain ⟨g, hn, hh⟩ := add_grow hF h (by omega) ht (pt_lt page 0) he hb hb1 (fun h => absurd h (by omega))
    have hne : t' ≠ s.top F := by intro e; rw [e, hn] at ht'; cases ht'
    refine add_ent_old (by omega) hne ?_ (pt_lt _ _) hk'
    by_cases c : t' = t
    · refine .inr fun e => ?_
      rw [c, e, he] at he'
      cases he'
    · exact .inl c
  | succ l ih =>
    intro s R t h ht hk hc t' x k ht' hk' he'
    rw [mapGo_succ]
    have he := kid_none.1 hk
    obtain ⟨g, hn, hh⟩ := add_grow hF h (by omega) ht (pt_lt page (l + 1)) he (show 1 < 32 by omega) rfl (fun _ => rfl)
    rw [pt_join] at g hh
    have htn : t ≠ s.top F := by intro e; rw [e, hn] at ht; cases ht
    have hne : t' ≠ s.top F := by intro e; rw [e, hn] at ht'; cases ht'
    have hleft := PS.left_add (show 0 < s.left F by omega) t (pt page (l + 1)) 1
    have hk2 : kid (s.add F t (pt page (l + 1)) 1).V (s.top F) (pt page l) = none := kid_none.2 (by rw [add_ent_new (by omega) htn (pt_lt _ _) (pt_lt _ _)])
    have e1 : ent (s.add F t (pt page (l + 1)) 1).V t' k = ent s.V t' k := by
      refine add_ent_old (by omega) hne ?_ (pt_lt _ _) hk'
      by_cases c : t' = t
      · refine .inr fun e => ?_
        rw [c, e, he] at he'
        cases he'
      · exact .inl c
    rw [ih (s.add F t (pt page (l + 1)) 1) _ (s.top F) g.wf (setR_same _ _ _) hk2 (by omega) t' x k (by rw [setR_other R _ hne]; exact ht') hk' (by rw [e1]; exact he'), e1]
theorem ent_kept {F root i bits t g : Nat} {s ms : PS} {R R' : Roles} (hF : F ≤ 256) (hi : i < 32768) (hb : bits < 32) (hb1 : bits % 2 = 1) (hW : WFS F s R) (hr : R root = some (root, 3, 0)) (h : PgAt F root i bits s ms R R' t g) (t' : Nat) (x : Nat × Nat × Nat) (k : Nat) (ht' : R t' = some x) (hk : k < 32) (he : ent s.V t' k % 2 = 1) : ent ms.V t' k = ent s.V t' k := by
  have h3 : i / 32 ^ (2 + 1) = 0 := Nat.div_eq_of_lt (by omega)
  obtain ⟨d1, d2, d3⟩ := deep_wf hW i root 2 root (by rw [h3]; exact hr)
  have hm := h.map
  unfold mapS at hm
  by_cases c1 : (deep s.V i 2 root).1 = 0 ∧ kid s.V (deep s.V i 2 root).2 (pt i 0) ≠ none
  · rw [if_pos c1] at hm
    have := (Prod.mk.inj hm).2
    omega
  · rw [if_neg c1] at hm
    by_cases c2 : s.left F < (deep s.V i 2 root).1 + 1
    · rw [if_pos c2] at hm
      have := (Prod.mk.inj hm).2
      omega
    · rw [if_neg c2] at hm
      have e := (Prod.mk.inj hm).1
      rw [← e]
      refine mapGo_keep hF i bits root hb hb1 _ s R _ hW d2 ?_ (by omega) t' x k ht' hk he
      by_cases c3 : (deep s.V i 2 root).1 = 0
      · rw [c3]
        cases hq : kid s.V (deep s.V i 2 root).2 (pt i 0) with
        | none => rfl
        | some y => exact absurd ⟨c3, by rw [hq]; exact fun a => by cases a⟩ c1
      · exact d3 c3
/-- each page's bytes and bits -/
def LC (root : Nat) (s : PS) (R : Roles) (C : Nat → Nat → Nat) (B : Nat → Nat) : Prop :=
  ∀ f i, R f = some (root, 0, i) → (∀ o, o < 256 → s.V (f * 256 + o) = C i o) ∧ ∃ t, R t = some (root, 1, i / 32) ∧ ent s.V t (i % 32) = f * 1024 + B i
theorem LC.congr {root : Nat} {s : PS} {R : Roles} {C C' : Nat → Nat → Nat} {B B' : Nat → Nat} (h : LC root s R C B) (hC : ∀ f i, R f = some (root, 0, i) → (∀ o, o < 256 → C i o = C' i o) ∧ B i = B' i) : LC root s R C' B' := fun f i hf => by
  obtain ⟨h1, t, h2, h3⟩ := h f i hf
  obtain ⟨e1, e2⟩ := hC f i hf
  exact ⟨fun o ho => (h1 o ho).trans (e1 o ho), t, h2, by rw [h3, e2]⟩
theorem LC.step {F root i bits t g : Nat} {s ms : PS} {R R' : Roles} {C : Nat → Nat → Nat} {B : Nat → Nat} (hF : F ≤ 256) (hi : i < 32768) (hb : bits < 32) (hb1 : bits % 2 = 1) (hW : WFS F s R) (hr : R root = some (root, 3, 0)) (pa : PgAt F root i bits s ms R R' t g) (h : LC root s R C B) (c : ByteArray) (hc : c.size ≤ 256) :
    LC root ⟨ms.Fr, putV ms.V (g * 256) c.size (byt c)⟩ R' (fun j o => if j = i then byt c o else C j o) (fun j => if j = i then bits else B j) := by
  intro f j hf
  have hW' := pa.grow.wf
  have hpt : pt i 0 = i % 32 := by unfold pt; rw [Nat.pow_zero, Nat.div_one]
  by_cases e : j = i
  · subst e
    obtain rfl := hW'.inj _ _ _ hf pa.role
    refine ⟨fun o ho => ?_, t, pa.trole, ?_⟩
    · dsimp only
      rw [if_pos rfl]
      show (if f * 256 ≤ f * 256 + o ∧ f * 256 + o < f * 256 + c.size then byt c (f * 256 + o - f * 256) else ms.V (f * 256 + o)) = _
      rw [show f * 256 + o - f * 256 = o by omega]
      by_cases ho2 : o < c.size
      · rw [if_pos (by omega)]
      · rw [if_neg (by omega), pa.zero _ (by omega), byt_beyond c o (by omega)]
    · dsimp only
      rw [if_pos rfl]
      have := put_tables (ms := ms) (U := byt c) pa.role hc t 0 (j / 32) (j % 32) pa.trole (Nat.mod_lt _ (by decide))
      show ent (putV ms.V (f * 256) c.size (byt c)) t (j % 32) = _
      rw [this, ← hpt]
      exact pa.ent
  · have hb0 := (hasB_iff hW'.lt root 0 j).2 ⟨f, hf⟩
    obtain ⟨l, _, hl⟩ := pa.has
    rw [hl, Nat.pow_zero, Nat.div_one, decide_eq_false e, Bool.and_false, Bool.or_false] at hb0
    obtain ⟨f0, hf0⟩ := (hasB_iff hW.lt root 0 j).1 hb0
    obtain rfl := hW'.inj _ _ _ (pa.grow.sub _ _ hf0) hf
    obtain ⟨h1, t0, h2, h3⟩ := h f0 j hf0
    have hfg : f0 ≠ g := fun q => by
      rw [q, pa.role] at hf
      cases hf
      exact e rfl
    have hodd : ent s.V t0 (j % 32) % 2 = 1 := by
      obtain ⟨f'', b'', a1, a2, a3, a4, _⟩ := hW.above hf0 (by omega)
      obtain rfl := hW.inj _ _ _ a1 h2
      rw [a2]
      omega
    refine ⟨fun o ho => ?_, t0, pa.grow.sub _ _ h2, ?_⟩
    · dsimp only
      rw [if_neg e]
      show (if g * 256 ≤ f0 * 256 + o ∧ f0 * 256 + o < g * 256 + c.size then _ else ms.V (f0 * 256 + o)) = _
      rw [if_neg (by omega), pa.grow.page f0 j hf0 _ (by omega)]
      exact h1 o ho
    · dsimp only
      rw [if_neg e]
      show ent (putV ms.V (g * 256) c.size (byt c)) t0 (j % 32) = _
      rw [put_tables (ms := ms) pa.role hc t0 0 (j / 32) (j % 32) (pa.grow.sub _ _ h2) (Nat.mod_lt _ (by decide)), ent_kept hF hi hb hb1 hW hr pa t0 _ _ h2 (Nat.mod_lt _ (by decide)) hodd]
      exact h3
theorem fl_lc {F root page bits : Nat} {str : ByteArray} {s : PS} {R : Roles} {Q : Nat → Nat → Bool} {C : Nat → Nat → Nat} {B : Nat → Nat} (hF : F ≤ 256) (f : FI F root Q s R) (hb : bits < 32) (hb1 : bits % 2 = 1) (h : LC root s R C B) : ∀ many, page + many ≤ 1000 → (∀ k, k < many → hasB F R root 0 (page + k) = false) → (∀ k, k < many → ∀ l, l ≤ 2 → Q l ((page + k) / 32 ^ l) = true) →
    ∃ R', FI F root Q (flN F root page bits str s many) R' ∧ (∀ j, hasB F R' root 0 j = (hasB F R root 0 j || decide (page ≤ j ∧ j < page + many))) ∧ LC root (flN F root page bits str s many) R' (fun j o => if page ≤ j ∧ j < page + many then byt str (256 * (j - page) + o) else C j o) (fun j => if page ≤ j ∧ j < page + many then bits else B j) := by
  intro many
  induction many with
  | zero => intro _ _ _; exact ⟨R, f, fun j => by rw [decide_eq_false (by omega)]; simp, h.congr fun f i _ => ⟨fun o _ => by rw [if_neg (by omega)], by rw [if_neg (by omega)]⟩⟩
  | succ k ih =>
    intro hp hnew hq
    obtain ⟨Rk, fk, hk, hlc⟩ := ih (by omega) (fun i hi => hnew i (by omega)) (fun i hi => hq i (by omega))
    have hn : hasB F Rk root 0 (page + k) = false := by rw [hk, hnew k (by omega), decide_eq_false (by omega)]; rfl
    obtain ⟨ms, R', t, g, pa, nx⟩ := fk.step hF (by omega) hb hb1 hn (hq k (by omega))
    have e : flN F root page bits str s (k + 1) = ⟨ms.Fr, putV ms.V (g * 256) (chB str k).size (byt (chB str k))⟩ := flS_at pa _
    rw [e]
    refine ⟨R', nx _ _ (chB_size _ _), fun j => ?_, (LC.step hF (by omega) hb hb1 fk.g.wf fk.r pa hlc (chB str k) (chB_size _ _)).congr fun f j _ => ⟨fun o ho => ?_, ?_⟩⟩
    · obtain ⟨l, _, hl⟩ := pa.has
      rw [hl, hk, Nat.pow_zero, Nat.div_one, decide_eq_true (Nat.zero_le l), Bool.true_and, Bool.or_assoc]
      congr 1
      rw [← Bool.decide_or]
      apply Bool.eq_iff_iff.2
      rw [decide_eq_true_eq, decide_eq_true_eq]
      omega
    · by_cases c : j = page + k
      · rw [if_pos c, if_pos (by omega), show j - page = k by omega]
        by_cases c2 : o < (chB str k).size
        · exact chB_at str k o c2
        · rw [byt_beyond _ _ (by omega), chB_behind str k o (by omega) ho]
      · rw [if_neg c]
        by_cases c2 : page ≤ j ∧ j < page + k
        · rw [if_pos c2, if_pos (by omega)]
        · rw [if_neg c2, if_neg (by omega)]
    · by_cases c : j = page + k
      · rw [if_pos c, if_pos (by omega)]
      · rw [if_neg c]
        by_cases c2 : page ≤ j ∧ j < page + k
        · rw [if_pos c2, if_pos (by omega)]
        · rw [if_neg c2, if_neg (by omega)]
/-- what a program's pages hold; their bits -/
def CP (x : Prg) (a m : Nat) (i o : Nat) : Nat := if i < 1 + a then byt x.text (256 * (i - 1) + o) else if i < 1 + m then byt x.data (256 * (i - 1 - a) + o) else 0
def BP (a : Nat) (i : Nat) : Nat := if i < 1 + a then 27 else 23
theorem load_lc {F : Nat} {s : PS} {R : Roles} {x : Prg} {a b m : Nat} (hF : F ≤ 256) (g : SG F s R) (hx : x.may = true) (ha : a = pagesN x.text.size) (hb : b = pagesN (x.data.size + x.bss.toNat)) (hm : m = a + b) (hl : m + 12 ≤ s.left F) :
    ∃ R', FI F (s.top F) (shQ m) (loadS F s x a b) R' ∧ (∀ j, hasB F R' (s.top F) 0 j = shQ m 0 j) ∧ LC (s.top F) (loadS F s x a b) R' (CP x a m) (BP a) := by
  obtain ⟨m1, m2, m3, m4, m5, m6, m7, m8, m9, m10⟩ := may_nums hx
  have hm28 : m ≤ 28 := by rw [hm, ha, hb]; unfold pagesN; omega
  obtain ⟨f0, h0⟩ := FI.start g hm28 hl
  have l0 : LC (s.top F) (s.take F) (setR R (s.top F) (s.top F, 3, 0)) (fun _ _ => 0) (fun _ => 0) := fun f i hf => by
    have := (hasB_iff f0.g.wf.lt (s.top F) 0 i).2 ⟨f, hf⟩
    rw [h0] at this
    cases this
  obtain ⟨R1, f1, h1, l1⟩ := fl_lc (page := 1) (bits := 27) (str := x.text) hF f0 (by decide) (by decide) l0 a (by omega) (fun k _ => h0 _) (fun k hk l hl => shQ_low m (1 + k) (by omega) (by omega) hm28 l hl)
  obtain ⟨R2, f2, h2, l2⟩ := fl_lc (page := 1 + a) (bits := 23) (str := x.data) hF f1 (by decide) (by decide) l1 b (by omega) (fun k _ => by rw [h1, h0, decide_eq_false (by omega)]; rfl) (fun k hk l hl => shQ_low m (1 + a + k) (by omega) (by omega) hm28 l hl)
  obtain ⟨R3, f3, h3, l3⟩ := fl_lc (page := 56) (bits := 23) (str := ⟨#[]⟩) hF f2 (by decide) (by decide) l2 8 (by omega) (fun k _ => by rw [h2, h1, h0, decide_eq_false (by omega), decide_eq_false (by omega)]; rfl) (fun k hk l hl => shQ_high m (56 + k) (by omega) (by omega) l hl)
  have hall : ∀ j, hasB F R3 (s.top F) 0 j = shQ m 0 j := fun j => by
    rw [h3, h2, h1, h0, Bool.false_or, ← Bool.decide_or]
    show _ = (decide (1 ≤ j ∧ j < 1 + m) || decide (56 ≤ j ∧ j < 64))
    congr 1
    apply Bool.eq_iff_iff.2
    rw [decide_eq_true_eq, decide_eq_true_eq]
    omega
  refine ⟨R3, f3, hall, l3.congr fun f j hf => ?_⟩
  have hj := (hasB_iff f3.g.wf.lt (s.top F) 0 j).2 ⟨f, hf⟩
  rw [hall] at hj
  have hj2 : (1 ≤ j ∧ j < 1 + m) ∨ (56 ≤ j ∧ j < 64) := by
    have e : (decide (1 ≤ j ∧ j < 1 + m) || decide (56 ≤ j ∧ j < 64)) = true := hj
    rw [Bool.or_eq_true, decide_eq_true_eq, decide_eq_true_eq] at e
    exact e
  unfold CP BP
  refine ⟨fun o ho => ?_, ?_⟩
  · by_cases c1 : 56 ≤ j ∧ j < 56 + 8
    · rw [if_pos c1, if_neg (by omega), if_neg (by omega), byt_beyond _ _ (Nat.zero_le _)]
    · rw [if_neg c1]
      by_cases c2 : 1 + a ≤ j ∧ j < 1 + a + b
      · rw [if_pos c2, if_neg (by omega), if_pos (by omega), show j - (1 + a) = j - 1 - a by omega]
      · rw [if_neg c2, if_pos (show 1 ≤ j ∧ j < 1 + a by omega), if_pos (by omega)]
  · by_cases c1 : 56 ≤ j ∧ j < 56 + 8
    · rw [if_pos c1, if_neg (by omega)]
    · rw [if_neg c1]
      by_cases c2 : 1 + a ≤ j ∧ j < 1 + a + b
      · rw [if_pos c2, if_neg (by omega)]
      · rw [if_neg c2, if_pos (show 1 ≤ j ∧ j < 1 + a by omega), if_pos (by omega)]
/-- an address of a page is come to, if its bits let it -/
theorem lc_at {F root : Nat} {s : PS} {R : Roles} {C : Nat → Nat → Nat} {B : Nat → Nat} (hW : WFS F s R) (hr : R root = some (root, 3, 0)) (h : LC root s R C B) (y : Nat) (hy : y < 8388608) (hb : hasB F R root 0 (y / 256) = true) (acc : Nat) (hB : B (y / 256) = 27 ∨ B (y / 256) = 23) (hacc : acc = 1 ∨ acc = 2) :
    tbAt s.V F root y acc = (if acc = 1 ∨ B (y / 256) = 23 then (tbAt s.V F root y 1) else none) ∧ ∃ f, tbAt s.V F root y 1 = some (f * 256 + y % 256) ∧ s.V (f * 256 + y % 256) = C (y / 256) (y % 256) := by
  obtain ⟨f, hf⟩ := (hasB_iff hW.lt root 0 (y / 256)).1 hb
  obtain ⟨h1, t, h2, h3⟩ := h f _ hf
  obtain ⟨b, q1, q2, q3, q4⟩ := leaf_at hW hr (show y / 256 < 32768 by omega) hf
  obtain rfl := hW.inj _ _ _ q1 h2
  have hfF := hW.lt _ _ hf
  have hl : tbLeaf s.V F root y = tbLeaf s.V F root (y / 256 * 256) := by
    unfold tbLeaf
    rw [show y / 256 * 256 / 262144 = y / 262144 by omega, show y / 256 * 256 / 8192 = y / 8192 by omega, show y / 256 * 256 / 256 = y / 256 by omega]
  have hpt : pt (y / 256) 0 = y / 256 % 32 := by unfold pt; rw [Nat.pow_zero, Nat.div_one]
  have he : entV s.V (b * 256 + 8 * pt (y / 256) 0) = f * 1024 + B (y / 256) := by rw [hpt]; exact h3
  have e1 : (f * 1024 + B (y / 256)) / 1024 = f := by rcases hB with e | e <;> rw [e] <;> omega
  have key : ∀ a, tbAt s.V F root y a = if tbMay F (f * 1024 + B (y / 256)) a = true then some (f * 256 + y % 256) else none := fun a => by
    unfold tbAt
    rw [if_neg (by omega)]
    unfold tbWalk
    rw [hl, q2, Option.bind_some, he, e1]
  have r1 : tbMay F (f * 1024 + B (y / 256)) 1 = true := by
    unfold tbMay
    rw [e1]
    apply decide_eq_true
    rw [Nat.pow_one]
    rcases hB with e | e <;> rw [e] <;> exact ⟨by omega, by omega, by omega, hfF⟩
  have k1 : tbAt s.V F root y 1 = some (f * 256 + y % 256) := by rw [key, if_pos r1]
  refine ⟨?_, f, k1, h1 _ (Nat.mod_lt _ (by decide))⟩
  rcases hacc with rfl | rfl
  · rw [if_pos (.inl rfl)]
  · rw [k1, key]
    rcases hB with e | e
    · have r2 : tbMay F (f * 1024 + B (y / 256)) 2 = false := by
        unfold tbMay
        rw [e1, e]
        apply decide_eq_false
        rintro ⟨_, _, h3, _⟩
        apply h3
        rw [show 2 ^ 2 = 4 from rfl]
        omega
      rw [r2, if_neg (by decide), if_neg (by rw [e]; decide)]
    · have r2 : tbMay F (f * 1024 + B (y / 256)) 2 = true := by
        unfold tbMay
        rw [e1, e]
        apply decide_eq_true
        rw [show 2 ^ 2 = 4 from rfl]
        exact ⟨by omega, by omega, by omega, hfF⟩
      rw [if_pos r2, if_pos (.inr e)]
theorem memStr_u8 (V : Nat → Nat) (a : Nat) : (memStr V a 1).data.toList = [UInt8.ofNat (V a)] := by
  unfold memStr
  rw [strOfNums_data]
  simp
/-- bytes that are read in a row -/
theorem in_list {F root : Nat} {s : PS} {R : Roles} {C : Nat → Nat → Nat} {B : Nat → Nat} (hW : WFS F s R) (hr : R root = some (root, 3, 0)) (h : LC root s R C B) (hB : ∀ i, B i = 27 ∨ B i = 23) (at_ : Nat) : ∀ n, (∀ j, j < n → at_ + j < 8388608 ∧ hasB F R root 0 ((at_ + j) / 256) = true) →
    ∃ xs, adrs s.V F root at_ 1 n = some xs ∧ inS s.V xs = (List.range n).map fun j => UInt8.ofNat (C ((at_ + j) / 256) ((at_ + j) % 256)) := by
  intro n
  induction n with
  | zero => intro _; exact ⟨[], rfl, rfl⟩
  | succ n ih =>
    intro hh
    obtain ⟨xs, h1, h2⟩ := ih (fun j hj => hh j (by omega))
    obtain ⟨b1, b2⟩ := hh n (by omega)
    obtain ⟨_, f, e1, e2⟩ := lc_at hW hr h (at_ + n) b1 b2 1 (hB _) (.inl rfl)
    refine ⟨xs ++ [f * 256 + (at_ + n) % 256], ?_, ?_⟩
    · rw [adrs, h1, Option.bind_some, Nat.mod_eq_of_lt (by omega), e1]
      rfl
    · rw [inS_next, h2, List.range_succ, List.map_append, memStr_u8, e2]
      rfl
theorem bytes_list (str : ByteArray) : ((List.range str.size).map fun j => UInt8.ofNat (byt str j)).toArray = str.data := by
  apply Array.ext'
  apply List.ext_getElem
  · simp
  · intro i h1 h2
    simp only [List.length_map, List.length_range] at h1
    simp only [List.getElem_map, List.getElem_range]
    unfold byt
    rw [List.getD, List.getElem?_eq_getElem h2]
    simp
end Go.Proofs.YtijooajhjcfneaaGreat
