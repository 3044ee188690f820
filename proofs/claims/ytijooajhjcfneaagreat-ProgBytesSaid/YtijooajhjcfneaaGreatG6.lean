/-
  Several texts in one: FrLeastB, SpLaw1, SpLaw2, SpLaw3, SpLaw4.
-/
import Derived.Test.YtijooajhjcfneaaGreatG5
namespace Go.Proofs.YtijooajhjcfneaaGreat
open Go.RowKit

theorem least_free (Fr : Nat → Bool) (first : Nat) : ∀ n, ∃ L, first ≤ L ∧ L ≤ first + n ∧ (∀ g, first ≤ g → g < L → Fr g = false) ∧ (L < first + n → Fr L = true)
  | 0 => ⟨first, Nat.le_refl _, Nat.le_refl _, fun g a b => by omega, fun h => by omega⟩
  | n + 1 => by
    obtain ⟨L, h1, h2, h3, h4⟩ := least_free Fr first n
    by_cases e : L < first + n
    · exact ⟨L, h1, by omega, h3, fun _ => h4 e⟩
    · obtain rfl : L = first + n := by omega
      by_cases f : Fr (first + n) = true
      · exact ⟨first + n, h1, by omega, h3, fun _ => f⟩
      · refine ⟨first + n + 1, by omega, by omega, fun g a b => ?_, fun h => by omega⟩
        by_cases g0 : g = first + n
        · subst g0; simpa using f
        · exact h3 g a (by omega)
def tkn (Fr : Nat → Bool) (first F : Nat) : Nat → Bool := fun g => decide (first ≤ g ∧ g < F) && !Fr g
theorem tkn_cnt (Fr : Nat → Bool) (first F : Nat) (h : first ≤ F) : ∀ j, j ≤ F → cnt (tkn Fr first F) 0 j + cnt Fr first (j - first) = j - first
  | 0, _ => by simp [cnt]
  | j + 1, hj => by
    have ih := tkn_cnt Fr first F h j (by omega)
    rw [cnt, Nat.zero_add]
    by_cases e : first ≤ j
    · rw [show j + 1 - first = (j - first) + 1 from by omega, cnt, show first + (j - first) = j from by omega]
      have e2 : tkn Fr first F j = !Fr j := by unfold tkn; rw [decide_eq_true (by omega)]; rfl
      rw [e2]
      cases Fr j <;> simp <;> omega
    · have e2 : tkn Fr first F j = false := by unfold tkn; rw [decide_eq_false (by omega)]; rfl
      rw [e2, show j + 1 - first = 0 from by omega]
      rw [show j - first = 0 from by omega] at ih
      simpa using ih
def tct (Fr : Nat → Bool) (first F j : Nat) : Nat := cnt (tkn Fr first F) 0 j
theorem tct_succ (Fr : Nat → Bool) (first F j : Nat) : tct Fr first F (j + 1) = tct Fr first F j + (if tkn Fr first F j then 1 else 0) := by unfold tct; rw [cnt, Nat.zero_add]
theorem tct_le (Fr : Nat → Bool) (first F j : Nat) : tct Fr first F j ≤ j := cnt_le _ _ _
theorem tct_sum (Fr : Nat → Bool) (first F : Nat) (h : first ≤ F) : tct Fr first F F + cnt Fr first (F - first) = F - first := tkn_cnt Fr first F h F (Nat.le_refl _)
theorem tkn_int (Fr : Nat → Bool) (first F j : Nat) : (decide ((first : Int) ≤ (j : Int) ∧ (j : Int) < (F : Int)) && !Fr (j : Int).toNat) = tkn Fr first F j := by
  unfold tkn
  rw [Int.toNat_natCast]
  congr 1
  rw [decide_eq_decide]
  omega
theorem f_give_any {S : Nat → Prop} {w : World} {q p F first : Nat} {Fr : Nat → Bool} {V : Nat → Nat} (h : Pl S w q p F first Fr V) (hF : F ≤ 256) (f : Int) :
    Calls Tryz.prog 60 #[.pointer (some ⟨q, 0, none⟩), .int .i64 f] w fun e w' => ∃ Fr' V' c, StepF S w q p F first Fr' V' (.int .i64 c) e w' := by
  by_cases hf : (first : Int) ≤ f ∧ f < (F : Int) ∧ Fr f.toNat = false
  · obtain ⟨g, rfl⟩ := Int.eq_ofNat_of_zero_le (show 0 ≤ f by omega)
    exact (f_give_yes h hF g (by omega) (by omega) hf.2.2).mono fun _ _ k => ⟨_, _, _, k⟩
  · exact (f_give_no h hF f hf).mono fun _ _ k => ⟨_, _, _, k⟩

end Go.Proofs.YtijooajhjcfneaaGreat

namespace Go.Proofs.YtijooajhjcfneaaGreat
open Go.RowKit

def ent (V : Nat → Nat) (t k : Nat) : Nat := entV V (t * 256 + 8 * k)
theorem ent_lt (V : Nat → Nat) (t k : Nat) : ent V t k < 18446744073709551616 := entV_lt V _
theorem entV_congr {V W : Nat → Nat} {a b : Nat} (h : ∀ i, i < 8 → V (a + i) = W (b + i)) : entV V a = entV W b := by
  unfold entV; rw [memStr_congr h]
/-- the entries of a frame hang on its bytes alone -/
theorem ent_congr {V W : Nat → Nat} {t k : Nat} (hk : k < 32) (h : ∀ a, a / 256 = t → V a = W a) : ent V t k = ent W t k :=
  entV_congr fun i hi => h _ (by omega)
theorem entV_none (a : Nat) : entV (fun _ => 0) a = 0 := by
  have h : entV (fun _ => 0) a = entV (fun _ => 0) 0 := entV_congr fun _ _ => rfl
  rw [h]
  decide +kernel
theorem clV_at {F f : Nat} (V : Nat → Nat) (h : f < F) (a : Nat) : clV F V (f : Int) a = if a / 256 = f then 0 else V a := by
  have e : cdF F (f : Int) = 0 := by unfold cdF; rw [if_pos (by omega)]
  unfold clV putV
  rw [if_pos e, Int.toNat_natCast]
  by_cases h1 : a / 256 = f
  · rw [if_pos h1, if_pos (by omega)]
  · rw [if_neg h1, if_neg (by omega)]
theorem ent_cl_same {F f k : Nat} (V : Nat → Nat) (h : f < F) (hk : k < 32) : ent (clV F V (f : Int)) f k = 0 := by
  have e : ent (clV F V (f : Int)) f k = ent (fun _ => 0) f k := ent_congr hk fun a ha => by rw [clV_at V h, if_pos ha]
  rw [e]
  exact entV_none _
theorem ent_cl_other {F f t k : Nat} (V : Nat → Nat) (h : f < F) (hk : k < 32) (ht : t ≠ f) : ent (clV F V (f : Int)) t k = ent V t k :=
  ent_congr hk fun a ha => by rw [clV_at V h, if_neg (by omega)]
theorem cdL8 {F b : Nat} (h : b + 8 ≤ F * 256) : cdL F b 8 = 0 := by
  unfold cdL
  rw [if_pos (by decide), if_pos (by show b + 8 ≤ F * 256; exact h)]
theorem st8_at {F b : Nat} (V : Nat → Nat) (v a : Nat) (h : a < b ∨ b + 8 ≤ a) : stV F V b 8 v a = V a := by
  unfold stV
  split
  · unfold putV
    rw [if_neg (by show ¬ (b ≤ a ∧ a < b + 8); omega)]
  · rfl
theorem wLow64 (v : Nat) (hv : v < 18446744073709551616) : wLow v (8 * ((8 : Nat) : Int)) = v := by
  unfold wLow
  split
  · omega
  · split
    · rfl
    · first | (exact Nat.mod_eq_of_lt (by simpa using hv)) | omega
theorem ent_st_same {F t k : Nat} (V : Nat → Nat) (v : Nat) (hv : v < 18446744073709551616) (h : t < F) (hk : k < 32) : ent (stV F V (t * 256 + 8 * k) 8 v) t k = v := by
  have hfit : t * 256 + 8 * k + 8 ≤ F * 256 := by omega
  have e := (ldV8 F (stV F V (t * 256 + 8 * k) 8 v) _ hfit).1
  have l := ld_st V F (t * 256 + 8 * k) v 8 hv (cdL8 hfit) (by omega)
  rw [wLow64 v hv] at l
  unfold ent
  rw [← e]
  exact l
theorem ent_st_other {F t k t' k' : Nat} (V : Nat → Nat) (v : Nat) (hk : k < 32) (hk' : k' < 32) (hne : t' ≠ t ∨ k' ≠ k) : ent (stV F V (t * 256 + 8 * k) 8 v) t' k' = ent V t' k' :=
  entV_congr fun i hi => st8_at V v _ (by omega)
theorem cpV_at {F a b : Nat} (V : Nat → Nat) (ha : a < F) (hb : b < F) (x : Nat) : cpV F V (a : Int) (b : Int) x = if x / 256 = a then V (b * 256 + x % 256) else V x := by
  have e : cdC F (a : Int) (b : Int) = 0 := by unfold cdC; rw [if_pos (by omega)]
  unfold cpV putV
  rw [if_pos e, Int.toNat_natCast, Int.toNat_natCast]
  by_cases h1 : x / 256 = a
  · rw [if_pos h1, if_pos (by omega)]
    congr 1
    omega
  · rw [if_neg h1, if_neg (by omega)]
theorem ent_cp_other {F a b t k : Nat} (V : Nat → Nat) (ha : a < F) (hb : b < F) (hk : k < 32) (ht : t ≠ a) : ent (cpV F V (a : Int) (b : Int)) t k = ent V t k :=
  ent_congr hk fun x hx => by rw [cpV_at V ha hb, if_neg (by omega)]

/-- the least of the first n that is free; n: none is -/
def lst (Fr : Nat → Bool) : Nat → Nat
  | 0 => 0
  | n + 1 => if lst Fr n < n then lst Fr n else if Fr n then n else n + 1
theorem lst_le (Fr : Nat → Bool) : ∀ n, lst Fr n ≤ n
  | 0 => Nat.le_refl _
  | n + 1 => by
    have := lst_le Fr n
    rw [lst]
    split
    · omega
    · split <;> omega
theorem lst_none (Fr : Nat → Bool) : ∀ n g, g < lst Fr n → Fr g = false
  | 0, g, h => by rw [lst] at h; omega
  | n + 1, g, h => by
    have ih := lst_none Fr n g
    have hl := lst_le Fr n
    rw [lst] at h
    split at h
    · exact ih h
    · split at h
      · exact ih (by omega)
      · rename_i h1 h2
        by_cases e : g = n
        · subst e; simpa using h2
        · exact ih (by omega)
theorem lst_some (Fr : Nat → Bool) : ∀ n, lst Fr n < n → Fr (lst Fr n) = true
  | 0, h => by omega
  | n + 1, h => by
    have ih := lst_some Fr n
    rw [lst] at h ⊢
    split
    · rename_i h1
      exact ih h1
    · split
      · assumption
      · rename_i h1 h2
        rw [if_neg h1, if_neg h2] at h
        omega
theorem cnt_zero_of {Fr : Nat → Bool} {a : Nat} : ∀ n, (∀ i, i < n → Fr (a + i) = false) → cnt Fr a n = 0
  | 0, _ => rfl
  | n + 1, h => by rw [cnt, cnt_zero_of n (fun i hi => h i (by omega)), h n (by omega)]; rfl
/-- some are free: so the least one is there -/
theorem lst_lt {Fr : Nat → Bool} {n : Nat} (h : 0 < cnt Fr 0 n) : lst Fr n < n := by
  have hl := lst_le Fr n
  by_cases e : lst Fr n < n
  · exact e
  · have := cnt_zero_of (Fr := Fr) (a := 0) n (fun i hi => lst_none Fr n (0 + i) (by omega))
    omega
theorem cnt_add (P : Nat → Bool) (a m : Nat) : ∀ n, cnt P a (m + n) = cnt P a m + cnt P (a + m) n
  | 0 => rfl
  | n + 1 => by rw [← Nat.add_assoc, cnt, cnt_add P a m n, cnt, Nat.add_assoc a m n]; omega
theorem cnt_mono {P Q : Nat → Bool} {a : Nat} : ∀ n, (∀ i, i < n → P (a + i) = true → Q (a + i) = true) → cnt P a n ≤ cnt Q a n
  | 0, _ => Nat.le_refl _
  | n + 1, h => by
    have ih := cnt_mono (P := P) (Q := Q) (a := a) n (fun i hi => h i (by omega))
    have hn := h n (by omega)
    rw [cnt, cnt]
    cases hp : P (a + n) with
    | false => simp; omega
    | true => rw [hn hp]; simp; omega
/-- the blocks of 32 -/
theorem cnt_blocks (P : Nat → Bool) (a : Nat) : ∀ n, cnt P (a * 32) (n * 32) = (List.range n).foldl (fun s k => s + cnt P ((a + k) * 32) 32) 0
  | 0 => rfl
  | n + 1 => by
    rw [List.range_succ, List.foldl_append, ← cnt_blocks P a n, show (n + 1) * 32 = n * 32 + 32 from by omega, cnt_add]
    simp only [List.foldl_cons, List.foldl_nil]
    rw [show a * 32 + n * 32 = (a + n) * 32 from by omega]
end Go.Proofs.YtijooajhjcfneaaGreat

namespace Go.Proofs.YtijooajhjcfneaaGreat
open Go.RowKit

/-- what a frame is: of the space with this root, so many levels above its pages, the so many-th there -/
abbrev Roles := Nat → Option (Nat × Nat × Nat)
def setR (R : Roles) (f : Nat) (x : Nat × Nat × Nat) : Roles := fun g => if g = f then some x else R g
theorem setR_same (R : Roles) (f : Nat) (x : Nat × Nat × Nat) : setR R f x f = some x := by unfold setR; rw [if_pos rfl]
theorem setR_other (R : Roles) {f g : Nat} (x : Nat × Nat × Nat) (h : g ≠ f) : setR R f x g = R g := by unfold setR; rw [if_neg h]

structure WF (F : Nat) (Fr : Nat → Bool) (V : Nat → Nat) (R : Roles) : Prop where
  free : ∀ f, Fr f = true ↔ f < F ∧ R f = none
  lt : ∀ f x, R f = some x → f < F
  shape : ∀ f r l i, R f = some (r, l, i) → (l = 3 ∧ i = 0 ∧ f = r) ∨ (l < 3 ∧ ∃ f', R f' = some (r, l + 1, i / 32) ∧ ent V f' (i % 32) % 2 = 1)
  inj : ∀ f g x, R f = some x → R g = some x → f = g
  down : ∀ f r l i k, R f = some (r, l + 1, i) → k < 32 → ent V f k % 2 = 1 → ∃ g bits, R g = some (r, l, i * 32 + k) ∧ ent V f k = g * 1024 + bits ∧ bits < 32 ∧ bits % 2 = 1 ∧ (0 < l → bits = 1)

theorem WF.level {F : Nat} {Fr : Nat → Bool} {V : Nat → Nat} {R : Roles} (h : WF F Fr V R) {f r l i : Nat} (hf : R f = some (r, l, i)) : l ≤ 3 ∧ (l = 3 → i = 0 ∧ f = r) := by
  rcases h.shape f r l i hf with ⟨a, b, c⟩ | ⟨a, _⟩
  · exact ⟨by omega, fun _ => ⟨b, c⟩⟩
  · exact ⟨by omega, fun e => by omega⟩
/-- the one above -/
theorem WF.above {F : Nat} {Fr : Nat → Bool} {V : Nat → Nat} {R : Roles} (h : WF F Fr V R) {f r l i : Nat} (hf : R f = some (r, l, i)) (hl : l < 3) :
    ∃ f' bits, R f' = some (r, l + 1, i / 32) ∧ ent V f' (i % 32) = f * 1024 + bits ∧ bits < 32 ∧ bits % 2 = 1 ∧ (0 < l → bits = 1) := by
  rcases h.shape f r l i hf with ⟨a, b, c⟩ | ⟨_, f', h1, h2⟩
  · omega
  · obtain ⟨g, bits, g1, g2, g3⟩ := h.down f' r l (i / 32) (i % 32) h1 (Nat.mod_lt _ (by decide)) h2
    rw [show i / 32 * 32 + i % 32 = i from by omega] at g1
    obtain rfl := h.inj _ _ _ g1 hf
    exact ⟨f', bits, h1, g2, g3⟩
theorem WF.root_of {F : Nat} {Fr : Nat → Bool} {V : Nat → Nat} {R : Roles} (h : WF F Fr V R) : ∀ n f r l i, 3 - l = n → R f = some (r, l, i) → R r = some (r, 3, 0)
  | 0, f, r, l, i, hn, hf => by
    have hl := h.level hf
    obtain rfl : l = 3 := by omega
    obtain ⟨rfl, rfl⟩ := hl.2 rfl
    exact hf
  | n + 1, f, r, l, i, hn, hf => by
    obtain ⟨f', _, h1, _⟩ := h.above hf (by omega)
    exact h.root_of n f' r (l + 1) (i / 32) (by omega) h1
theorem WF.bound {F : Nat} {Fr : Nat → Bool} {V : Nat → Nat} {R : Roles} (h : WF F Fr V R) {f r l i : Nat} (hf : R f = some (r, l, i)) : (l = 3 → i < 1) ∧ (l = 2 → i < 32) ∧ (l = 1 → i < 1024) ∧ (l = 0 → i < 32768) := by
  have b3 : ∀ f i, R f = some (r, 3, i) → i < 1 := fun f i hf => by have := (h.level hf).2 rfl; omega
  have b2 : ∀ f i, R f = some (r, 2, i) → i < 32 := fun f i hf => by obtain ⟨f', _, h1, _⟩ := h.above hf (by omega); have := b3 _ _ h1; omega
  have b1 : ∀ f i, R f = some (r, 1, i) → i < 1024 := fun f i hf => by obtain ⟨f', _, h1, _⟩ := h.above hf (by omega); have := b2 _ _ h1; omega
  have b0 : ∀ f i, R f = some (r, 0, i) → i < 32768 := fun f i hf => by obtain ⟨f', _, h1, _⟩ := h.above hf (by omega); have := b1 _ _ h1; omega
  exact ⟨fun e => b3 f i (e ▸ hf), fun e => b2 f i (e ▸ hf), fun e => b1 f i (e ▸ hf), fun e => b0 f i (e ▸ hf)⟩

/-- what an entry leads to -/
def kid (V : Nat → Nat) (t k : Nat) : Option Nat := if ent V t k % 2 = 1 then some (ent V t k / 1024) else none
theorem kid_none {V : Nat → Nat} {t k : Nat} : kid V t k = none ↔ ent V t k % 2 = 0 := by
  unfold kid
  generalize ent V t k = e
  constructor
  · intro h
    split at h
    · cases h
    · omega
  · intro h
    rw [if_neg (by omega)]
theorem kid_some {V : Nat → Nat} {t k g : Nat} (h : kid V t k = some g) : ent V t k % 2 = 1 ∧ ent V t k / 1024 = g := by
  unfold kid at h
  generalize ent V t k = e at *
  split at h
  · exact ⟨by assumption, by simpa using h⟩
  · cases h
theorem WF.kid {F : Nat} {Fr : Nat → Bool} {V : Nat → Nat} {R : Roles} (h : WF F Fr V R) {t r l i k g : Nat} (ht : R t = some (r, l + 1, i)) (hk : k < 32) (hg : kid V t k = some g) :
    R g = some (r, l, i * 32 + k) ∧ ∃ bits, ent V t k = g * 1024 + bits ∧ bits < 32 ∧ bits % 2 = 1 ∧ (0 < l → bits = 1) := by
  obtain ⟨h1, h2⟩ := kid_some hg
  obtain ⟨g', bits, a, b, c⟩ := h.down t r l i k ht hk h1
  generalize ent V t k = e at *
  obtain rfl : g' = g := by omega
  exact ⟨a, bits, b, c⟩
theorem WF.kid_of {F : Nat} {Fr : Nat → Bool} {V : Nat → Nat} {R : Roles} (h : WF F Fr V R) {t r l i k g : Nat} (ht : R t = some (r, l + 1, i)) (hl : l < 3) (hk : k < 32) (hg : R g = some (r, l, i * 32 + k)) : Go.Proofs.YtijooajhjcfneaaGreat.kid V t k = some g := by
  obtain ⟨f', bits, h1, h2, h3, h4, h5⟩ := h.above hg hl
  rw [show (i * 32 + k) / 32 = i from by omega] at h1
  rw [show (i * 32 + k) % 32 = k from by omega] at h2
  obtain rfl := h.inj _ _ _ h1 ht
  unfold Go.Proofs.YtijooajhjcfneaaGreat.kid
  rw [h2, if_pos (by omega), show (g * 1024 + bits) / 1024 = g from by omega]
theorem WF.kid_no {F : Nat} {Fr : Nat → Bool} {V : Nat → Nat} {R : Roles} (h : WF F Fr V R) {t r l i k : Nat} (ht : R t = some (r, l + 1, i)) (hk : k < 32) (he : ent V t k % 2 = 0) : ∀ g, R g ≠ some (r, l, i * 32 + k) := by
  intro g hg
  have hl := h.level ht
  have := h.kid_of ht (by omega) hk hg
  have := (kid_some this).1
  omega

/-- bytes of pages turn nothing -/
theorem WF.congr {F : Nat} {Fr : Nat → Bool} {V V' : Nat → Nat} {R : Roles} (h : WF F Fr V R) (hv : ∀ f r l i, R f = some (r, l + 1, i) → ∀ a, a / 256 = f → V' a = V a) : WF F Fr V' R := by
  refine ⟨h.free, h.lt, fun f r l i hf => ?_, h.inj, fun f r l i k hf hk he => ?_⟩
  · rcases h.shape f r l i hf with a | ⟨a, f', b, c⟩
    · exact .inl a
    · refine .inr ⟨a, f', b, ?_⟩
      rw [ent_congr (W := V) (Nat.mod_lt _ (by decide)) (hv f' r l _ b)]
      exact c
  · have e := ent_congr (V := V') (W := V) hk (hv f r l i hf)
    rw [e] at he ⊢
    exact h.down f r l i k hf hk he

/-- which places of a space's tree there are -/
def hasB (F : Nat) (R : Roles) (r l i : Nat) : Bool := (List.range F).any fun f => R f == some (r, l, i)
theorem hasB_iff {F : Nat} {R : Roles} (hlt : ∀ f x, R f = some x → f < F) (r l i : Nat) : hasB F R r l i = true ↔ ∃ f, R f = some (r, l, i) := by
  unfold hasB
  rw [List.any_eq_true]
  constructor
  · rintro ⟨f, _, h⟩
    exact ⟨f, by simpa using h⟩
  · rintro ⟨f, h⟩
    exact ⟨f, by simpa using hlt f _ h, by simpa using h⟩
def cntN (P : Nat → Nat → Bool) : Nat := cnt (P 2) 0 32 + cnt (P 1) 0 1024 + cnt (P 0) 0 32768 + (if P 3 0 then 1 else 0)
def setP (P : Nat → Nat → Bool) (l i : Nat) : Nat → Nat → Bool := fun l' i' => if l' = l ∧ i' = i then true else P l' i'
theorem setP_row (P : Nat → Nat → Bool) (l i : Nat) : setP P l i l = setF (P l) i true := by
  funext j
  unfold setP setF
  simp
theorem setP_other (P : Nat → Nat → Bool) (l i l' : Nat) (h : l' ≠ l) : setP P l i l' = P l' := by
  funext j
  unfold setP
  rw [if_neg (by omega)]
theorem cntN_set (P : Nat → Nat → Bool) (l i : Nat) (hp : P l i = false) (h3 : l = 3 → i < 1) (h2 : l = 2 → i < 32) (h1 : l = 1 → i < 1024) (h0 : l = 0 → i < 32768) (hl : l ≤ 3) : cntN (setP P l i) = cntN P + 1 := by
  have c := fun n (hn : i < n) => cnt_setF (P l) i true 0 n (Nat.zero_le _) (by omega)
  rcases (show l = 0 ∨ l = 1 ∨ l = 2 ∨ l = 3 by omega) with rfl | rfl | rfl | rfl
  · have := c 32768 (h0 rfl)
    unfold cntN
    rw [setP_row, setP_other P 0 i 2 (by omega), setP_other P 0 i 1 (by omega), setP_other P 0 i 3 (by omega)]
    rw [hp] at this
    simp at this
    omega
  · have := c 1024 (h1 rfl)
    unfold cntN
    rw [setP_row, setP_other P 1 i 2 (by omega), setP_other P 1 i 0 (by omega), setP_other P 1 i 3 (by omega)]
    rw [hp] at this
    simp at this
    omega
  · have := c 32 (h2 rfl)
    unfold cntN
    rw [setP_row, setP_other P 2 i 1 (by omega), setP_other P 2 i 0 (by omega), setP_other P 2 i 3 (by omega)]
    rw [hp] at this
    simp at this
    omega
  · obtain rfl : i = 0 := by have := h3 rfl; omega
    unfold cntN
    rw [setP_other P 3 0 1 (by omega), setP_other P 3 0 0 (by omega), setP_other P 3 0 2 (by omega), hp]
    have e : setP P 3 0 3 0 = true := by unfold setP; simp
    rw [e]
    simp
theorem cntN_mono {P Q : Nat → Nat → Bool} (h : ∀ l i, P l i = true → Q l i = true) : cntN P ≤ cntN Q := by
  unfold cntN
  have a := cnt_mono (P := P 2) (Q := Q 2) (a := 0) 32 (fun i _ => h 2 _)
  have b := cnt_mono (P := P 1) (Q := Q 1) (a := 0) 1024 (fun i _ => h 1 _)
  have c := cnt_mono (P := P 0) (Q := Q 0) (a := 0) 32768 (fun i _ => h 0 _)
  have d : (if P 3 0 = true then 1 else 0) ≤ (if Q 3 0 = true then 1 else 0) := by
    split
    · rename_i e; rw [if_pos (h 3 0 e)]; exact Nat.le_refl _
    · exact Nat.zero_le _
  omega
theorem hasB_set {F : Nat} {R : Roles} {f : Nat} (hlt : ∀ f x, R f = some x → f < F) (hf : f < F) (hn : R f = none) (r l i : Nat) : (fun l' i' => hasB F (setR R f (r, l, i)) r l' i') = setP (hasB F R r) l i := by
  have hlt' : ∀ g x, setR R f (r, l, i) g = some x → g < F := fun g x h => by
    unfold setR at h
    split at h
    · omega
    · exact hlt g x h
  funext l' i'
  apply Bool.eq_iff_iff.2
  rw [hasB_iff hlt']
  unfold setP
  constructor
  · rintro ⟨g, h⟩
    unfold setR at h
    split at h
    · have e : (r, l, i) = (r, l', i') := by simpa using h
      cases e
      simp
    · split
      · rfl
      · exact (hasB_iff hlt r l' i').2 ⟨g, h⟩
  · intro h
    split at h
    · rename_i e
      obtain ⟨rfl, rfl⟩ := e
      exact ⟨f, setR_same _ _ _⟩
    · obtain ⟨g, h⟩ := (hasB_iff hlt r l' i').1 h
      exact ⟨g, by rw [setR_other R _ (by intro e; subst e; rw [hn] at h; cases h)]; exact h⟩
theorem hasB_set_other {F : Nat} {R : Roles} {f : Nat} (hlt : ∀ f x, R f = some x → f < F) (hf : f < F) (hn : R f = none) (r r' l i : Nat) (hr : r' ≠ r) : hasB F (setR R f (r, l, i)) r' = hasB F R r' := by
  have hlt' : ∀ g x, setR R f (r, l, i) g = some x → g < F := fun g x h => by
    unfold setR at h
    split at h
    · omega
    · exact hlt g x h
  funext l' i'
  apply Bool.eq_iff_iff.2
  rw [hasB_iff hlt', hasB_iff hlt]
  constructor
  · rintro ⟨g, h⟩
    unfold setR at h
    split at h
    · have e : (r, l, i) = (r', l', i') := by simpa using h
      cases e
      exact absurd rfl hr
    · exact ⟨g, h⟩
  · rintro ⟨g, h⟩
    exact ⟨g, by rw [setR_other R _ (by intro e; subst e; rw [hn] at h; cases h)]; exact h⟩
end Go.Proofs.YtijooajhjcfneaaGreat

namespace Go.Proofs.YtijooajhjcfneaaGreat
open Go.RowKit

/-- the pool and its memory -/
structure PS where
  Fr : Nat → Bool
  V : Nat → Nat
def PS.left (F : Nat) (s : PS) : Nat := cnt s.Fr 0 F
def PS.top (F : Nat) (s : PS) : Nat := lst s.Fr F
def PS.take (F : Nat) (s : PS) : PS := ⟨setF s.Fr (s.top F) false, clV F s.V (s.top F : Nat)⟩
def PS.put (F : Nat) (s : PS) (t k e : Nat) : PS := ⟨s.Fr, stV F s.V (t * 256 + 8 * k) 8 e⟩
/-- a frame more: an entry says it -/
def PS.add (F : Nat) (s : PS) (t k bits : Nat) : PS := (s.take F).put F t k (s.top F * 1024 + bits)
abbrev WFS (F : Nat) (s : PS) (R : Roles) : Prop := WF F s.Fr s.V R

theorem cnt_take {F : Nat} {Fr : Nat → Bool} (h : 0 < cnt Fr 0 F) : cnt (setF Fr (lst Fr F) false) 0 F + 1 = cnt Fr 0 F := by
  have hl := lst_lt h
  have hs := lst_some Fr F hl
  have := cnt_setF Fr (lst Fr F) false 0 F (Nat.zero_le _) (by omega)
  rw [hs] at this
  simpa using this
theorem PS.left_add {F : Nat} {s : PS} (h : 0 < s.left F) (t k bits : Nat) : (s.add F t k bits).left F + 1 = s.left F := cnt_take h
theorem PS.left_take {F : Nat} {s : PS} (h : 0 < s.left F) : (s.take F).left F + 1 = s.left F := cnt_take h

/-- what grows in space r, and leaves all others as they were -/
structure Grow (F : Nat) (s : PS) (R : Roles) (s' : PS) (R' : Roles) (r : Nat) : Prop where
  wf : WFS F s' R'
  sub : ∀ f x, R f = some x → R' f = some x
  oth : ∀ f r' l i, r' ≠ r → R' f = some (r', l, i) → R f = some (r', l, i)
  cnt : s'.left F + cntN (hasB F R' r) = s.left F + cntN (hasB F R r)
  keep : ∀ f r' l i, r' ≠ r → R f = some (r', l, i) → ∀ a, a / 256 = f → s'.V a = s.V a
  page : ∀ f i, R f = some (r, 0, i) → ∀ a, a / 256 = f → s'.V a = s.V a
theorem Grow.refl {F : Nat} {s : PS} {R : Roles} (h : WFS F s R) (r : Nat) : Grow F s R s R r := ⟨h, fun _ _ h => h, fun _ _ _ _ _ h => h, rfl, fun _ _ _ _ _ _ _ _ => rfl, fun _ _ _ _ _ => rfl⟩
theorem Grow.trans {F : Nat} {s s' s'' : PS} {R R' R'' : Roles} {r : Nat} (h : Grow F s R s' R' r) (k : Grow F s' R' s'' R'' r) : Grow F s R s'' R'' r :=
  ⟨k.wf, fun f x a => k.sub f x (h.sub f x a), fun f r' l i a b => h.oth f r' l i a (k.oth f r' l i a b), k.cnt.trans h.cnt,
   fun f r' l i a b c d => (k.keep f r' l i a (h.sub _ _ b) c d).trans (h.keep f r' l i a b c d), fun f i b c d => (k.page f i (h.sub _ _ b) c d).trans (h.page f i b c d)⟩

theorem PS.add_eq (F : Nat) (s : PS) (t k bits : Nat) : (s.add F t k bits).V = stV F (clV F s.V (s.top F : Nat)) (t * 256 + 8 * k) 8 (s.top F * 1024 + bits) := rfl
theorem add_V {F : Nat} {s : PS} (hf : s.top F < F) (t k bits a : Nat) (h1 : a / 256 ≠ t) (h2 : a / 256 ≠ s.top F) : k < 32 → (s.add F t k bits).V a = s.V a := by
  intro hk
  rw [PS.add_eq, st8_at _ _ _ (by omega), clV_at _ hf, if_neg h2]
theorem add_fresh {F : Nat} {s : PS} (hf : s.top F < F) (t k bits a : Nat) (h1 : t ≠ s.top F) (h2 : a / 256 = s.top F) : k < 32 → (s.add F t k bits).V a = 0 := by
  intro hk
  rw [PS.add_eq, st8_at _ _ _ (by omega), clV_at _ hf, if_pos h2]

/-- one frame more in a space -/
theorem add_grow {F : Nat} {s : PS} {R : Roles} (hF : F ≤ 256) (h : WFS F s R) (hc : 0 < s.left F) {t r l i k bits : Nat} (ht : R t = some (r, l + 1, i)) (hk : k < 32) (he : ent s.V t k % 2 = 0) (hb : bits < 32) (hb1 : bits % 2 = 1) (hbl : 0 < l → bits = 1) :
    Grow F s R (s.add F t k bits) (setR R (s.top F) (r, l, i * 32 + k)) r ∧ R (s.top F) = none ∧ (fun l' i' => hasB F (setR R (s.top F) (r, l, i * 32 + k)) r l' i') = setP (hasB F R r) l (i * 32 + k) := by
  have hflt : s.top F < F := lst_lt hc
  have hfr : s.Fr (s.top F) = true := lst_some s.Fr F hflt
  have hfn : R (s.top F) = none := ((h.free _).1 hfr).2
  have htf : t ≠ s.top F := by intro e; rw [e, hfn] at ht; cases ht
  have hlt := h.lt
  have htlt := h.lt _ _ ht
  have hl := h.level ht
  have hno := h.kid_no ht hk he
  have hadd := add_V (s := s) hflt t k bits
  have hleft := PS.left_add hc t k bits
  -- the entries behind it
  have e1 : ent (s.add F t k bits).V t k = s.top F * 1024 + bits := by
    show ent (stV F (clV F s.V (s.top F : Nat)) (t * 256 + 8 * k) 8 (s.top F * 1024 + bits)) t k = _
    have hv : s.top F * 1024 + bits < 18446744073709551616 := by generalize s.top F = f at *; omega
    exact ent_st_same _ _ hv htlt hk
  have e2 : ∀ j, j < 32 → ent (s.add F t k bits).V (s.top F) j = 0 := fun j hj => by
    show ent (stV F (clV F s.V (s.top F : Nat)) (t * 256 + 8 * k) 8 (s.top F * 1024 + bits)) (s.top F) j = _
    rw [ent_st_other _ _ hk hj (.inl (Ne.symm htf)), ent_cl_same _ hflt hj]
  have e3 : ∀ g j, j < 32 → g ≠ s.top F → (g ≠ t ∨ j ≠ k) → ent (s.add F t k bits).V g j = ent s.V g j := fun g j hj hg hgk => by
    show ent (stV F (clV F s.V (s.top F : Nat)) (t * 256 + 8 * k) 8 (s.top F * 1024 + bits)) g j = _
    rw [ent_st_other _ _ hk hj hgk, ent_cl_other _ hflt hj hg]
  have eFr : ∀ g, (s.add F t k bits).Fr g = if g = s.top F then false else s.Fr g := fun g => rfl
  generalize hs' : s.add F t k bits = s' at *
  generalize s.top F = f at *
  have hb8 : (f * 1024 + bits) % 2 = 1 := by omega
  refine ⟨⟨⟨fun g => ?_, fun g x hx => ?_, fun g r' l' i' hg => ?_, fun g g' x hg hg' => ?_, fun g r' l' i' j hg hj hej => ?_⟩, fun g x hx => ?_, fun g r' l' i' hr hg => ?_, ?_, fun g r' l' i' hr hg a ha => ?_, fun g i' hg a ha => ?_⟩, hfn, hasB_set hlt hflt hfn r l (i * 32 + k)⟩
  · rw [eFr]
    by_cases e : g = f
    · subst e; rw [if_pos rfl, setR_same]; simp
    · rw [if_neg e, setR_other R _ e]; exact h.free g
  · by_cases e : g = f
    · subst e; exact hflt
    · rw [setR_other R _ e] at hx; exact hlt g x hx
  · by_cases e : g = f
    · subst e
      rw [setR_same] at hg
      cases hg
      refine .inr ⟨by omega, t, ?_, ?_⟩
      · rw [setR_other R _ htf, show (i * 32 + k) / 32 = i from by omega]; exact ht
      · rw [show (i * 32 + k) % 32 = k from by omega, e1]; exact hb8
    · rw [setR_other R _ e] at hg
      rcases h.shape g r' l' i' hg with a | ⟨a, f', b, c⟩
      · exact .inl a
      · have hne : f' ≠ f := by intro e'; rw [e', hfn] at b; cases b
        refine .inr ⟨a, f', by rw [setR_other R _ hne]; exact b, ?_⟩
        by_cases e' : f' = t ∧ i' % 32 = k
        · rw [e'.1, e'.2, e1]; exact hb8
        · rw [e3 f' _ (Nat.mod_lt _ (by decide)) hne (by omega)]; exact c
  · by_cases e : g = f
    · by_cases e' : g' = f
      · rw [e, e']
      · subst e
        rw [setR_same] at hg
        rw [setR_other R _ e'] at hg'
        cases hg
        exact absurd hg' (hno g')
    · by_cases e' : g' = f
      · subst e'
        rw [setR_same] at hg'
        rw [setR_other R _ e] at hg
        cases hg'
        exact absurd hg (hno g)
      · rw [setR_other R _ e] at hg
        rw [setR_other R _ e'] at hg'
        exact h.inj g g' x hg hg'
  · by_cases e : g = f
    · subst e
      rw [e2 j hj] at hej
      cases hej
    · rw [setR_other R _ e] at hg
      by_cases e' : g = t ∧ j = k
      · obtain ⟨rfl, rfl⟩ := e'
        rw [ht] at hg
        cases hg
        exact ⟨f, bits, setR_same _ _ _, e1, hb, hb1, hbl⟩
      · rw [e3 g j hj e (by omega)] at hej ⊢
        obtain ⟨g2, b2, h1, h2⟩ := h.down g r' l' i' j hg hj hej
        have hne : g2 ≠ f := by intro e'; rw [e', hfn] at h1; cases h1
        exact ⟨g2, b2, by rw [setR_other R _ hne]; exact h1, h2⟩
  · have hne : g ≠ f := by intro e'; rw [e', hfn] at hx; cases hx
    rw [setR_other R _ hne]; exact hx
  · by_cases e : g = f
    · subst e
      rw [setR_same] at hg
      cases hg
      exact absurd rfl hr
    · rw [setR_other R _ e] at hg; exact hg
  · have hb := h.bound ht
    have c := cntN_set (hasB F R r) l (i * 32 + k) (by
      cases hh : hasB F R r l (i * 32 + k) with
      | false => rfl
      | true => obtain ⟨g, hg⟩ := (hasB_iff hlt _ _ _).1 hh; exact absurd hg (hno g)) (by omega) (by omega) (by omega) (by omega) (by omega)
    have c2 := hasB_set hlt hflt hfn r l (i * 32 + k)
    have c3 : cntN (hasB F (setR R f (r, l, i * 32 + k)) r) = cntN (hasB F R r) + 1 := (congrArg cntN c2).trans c
    rw [c3]
    omega
  · have hne : g ≠ f := by intro e'; rw [e', hfn] at hg; cases hg
    have hnt : g ≠ t := by intro e'; rw [e', ht] at hg; cases hg; exact hr rfl
    exact hadd a (by omega) (by omega) hk
  · have hne : g ≠ f := by intro e'; rw [e', hfn] at hg; cases hg
    have hnt : g ≠ t := by intro e'; rw [e', ht] at hg; cases hg
    exact hadd a (by omega) (by omega) hk
/-- what stands there behind it -/
theorem add_ent {F : Nat} {s : PS} (hF : F ≤ 256) (hc : 0 < s.left F) {t k bits : Nat} (htF : t < F) (hk : k < 32) (hb : bits < 1024) : ent (s.add F t k bits).V t k = s.top F * 1024 + bits := by
  have hflt : s.top F < F := lst_lt hc
  show ent (stV F (clV F s.V (s.top F : Nat)) (t * 256 + 8 * k) 8 (s.top F * 1024 + bits)) t k = _
  have hv : s.top F * 1024 + bits < 18446744073709551616 := by generalize s.top F = f at *; omega
  exact ent_st_same _ _ hv htF hk
theorem add_ent_new {F : Nat} {s : PS} (hc : 0 < s.left F) {t k bits j : Nat} (hne : t ≠ s.top F) (hk : k < 32) (hj : j < 32) : ent (s.add F t k bits).V (s.top F) j = 0 := by
  have hflt : s.top F < F := lst_lt hc
  show ent (stV F (clV F s.V (s.top F : Nat)) (t * 256 + 8 * k) 8 (s.top F * 1024 + bits)) (s.top F) j = _
  rw [ent_st_other _ _ hk hj (.inl (Ne.symm hne)), ent_cl_same _ hflt hj]
theorem add_ent_old {F : Nat} {s : PS} (hc : 0 < s.left F) {t k bits g j : Nat} (hg : g ≠ s.top F) (hgk : g ≠ t ∨ j ≠ k) (hk : k < 32) (hj : j < 32) : ent (s.add F t k bits).V g j = ent s.V g j := by
  have hflt : s.top F < F := lst_lt hc
  show ent (stV F (clV F s.V (s.top F : Nat)) (t * 256 + 8 * k) 8 (s.top F * 1024 + bits)) g j = _
  rw [ent_st_other _ _ hk hj hgk, ent_cl_other _ hflt hj hg]

/-- a space more -/
theorem new_grow {F : Nat} {s : PS} {R : Roles} (h : WFS F s R) (hc : 0 < s.left F) :
    Grow F s R (s.take F) (setR R (s.top F) (s.top F, 3, 0)) (s.top F) ∧ R (s.top F) = none ∧ (∀ l i, hasB F R (s.top F) l i = false) ∧ (fun l' i' => hasB F (setR R (s.top F) (s.top F, 3, 0)) (s.top F) l' i') = setP (hasB F R (s.top F)) 3 0 := by
  have hflt : s.top F < F := lst_lt hc
  have hfr : s.Fr (s.top F) = true := lst_some s.Fr F hflt
  have hfn : R (s.top F) = none := ((h.free _).1 hfr).2
  have hlt := h.lt
  have hleft := PS.left_take hc
  have hV : ∀ a, (s.take F).V a = if a / 256 = s.top F then 0 else s.V a := fun a => clV_at s.V hflt a
  have e2 : ∀ j, j < 32 → ent (s.take F).V (s.top F) j = 0 := fun j hj => ent_cl_same s.V hflt hj
  have e3 : ∀ g j, j < 32 → g ≠ s.top F → ent (s.take F).V g j = ent s.V g j := fun g j hj hg => ent_cl_other s.V hflt hj hg
  have eFr : ∀ g, (s.take F).Fr g = if g = s.top F then false else s.Fr g := fun g => rfl
  generalize hs' : s.take F = s' at *
  generalize s.top F = f at *
  have hno : ∀ g l i, R g ≠ some (f, l, i) := fun g l i hg => by
    have := h.root_of _ g f l i rfl hg
    rw [hfn] at this
    cases this
  have hno' : ∀ l i, hasB F R f l i = false := fun l i => by
    cases hh : hasB F R f l i with
    | false => rfl
    | true => obtain ⟨g, hg⟩ := (hasB_iff hlt _ _ _).1 hh; exact absurd hg (hno g l i)
  refine ⟨⟨⟨fun g => ?_, fun g x hx => ?_, fun g r' l' i' hg => ?_, fun g g' x hg hg' => ?_, fun g r' l' i' j hg hj hej => ?_⟩, fun g x hx => ?_, fun g r' l' i' hr hg => ?_, ?_, fun g r' l' i' hr hg a ha => ?_, fun g i' hg a ha => ?_⟩, hfn, hno', hasB_set hlt hflt hfn f 3 0⟩
  · rw [eFr]
    by_cases e : g = f
    · subst e; rw [if_pos rfl, setR_same]; simp
    · rw [if_neg e, setR_other R _ e]; exact h.free g
  · by_cases e : g = f
    · subst e; exact hflt
    · rw [setR_other R _ e] at hx; exact hlt g x hx
  · by_cases e : g = f
    · subst e
      rw [setR_same] at hg
      cases hg
      exact .inl ⟨rfl, rfl, rfl⟩
    · rw [setR_other R _ e] at hg
      rcases h.shape g r' l' i' hg with a | ⟨a, f', b, c⟩
      · exact .inl a
      · have hne : f' ≠ f := by intro e'; rw [e', hfn] at b; cases b
        refine .inr ⟨a, f', by rw [setR_other R _ hne]; exact b, ?_⟩
        rw [e3 f' _ (Nat.mod_lt _ (by decide)) hne]; exact c
  · by_cases e : g = f
    · by_cases e' : g' = f
      · rw [e, e']
      · subst e
        rw [setR_same] at hg
        rw [setR_other R _ e'] at hg'
        cases hg
        exact absurd hg' (hno g' 3 0)
    · by_cases e' : g' = f
      · subst e'
        rw [setR_same] at hg'
        rw [setR_other R _ e] at hg
        cases hg'
        exact absurd hg (hno g 3 0)
      · rw [setR_other R _ e] at hg
        rw [setR_other R _ e'] at hg'
        exact h.inj g g' x hg hg'
  · by_cases e : g = f
    · subst e
      rw [e2 j hj] at hej
      cases hej
    · rw [setR_other R _ e] at hg
      rw [e3 g j hj e] at hej ⊢
      obtain ⟨g2, b2, h1, h2⟩ := h.down g r' l' i' j hg hj hej
      have hne : g2 ≠ f := by intro e'; rw [e', hfn] at h1; cases h1
      exact ⟨g2, b2, by rw [setR_other R _ hne]; exact h1, h2⟩
  · have hne : g ≠ f := by intro e'; rw [e', hfn] at hx; cases hx
    rw [setR_other R _ hne]; exact hx
  · by_cases e : g = f
    · subst e
      rw [setR_same] at hg
      cases hg
      exact absurd rfl hr
    · rw [setR_other R _ e] at hg; exact hg
  · have c := cntN_set (hasB F R f) 3 0 (hno' 3 0) (by omega) (by omega) (by omega) (by omega) (by omega)
    have c2 := hasB_set hlt hflt hfn f 3 0
    have c3 : cntN (hasB F (setR R f (f, 3, 0)) f) = cntN (hasB F R f) + 1 := (congrArg cntN c2).trans c
    rw [c3]
    omega
  · have hne : g ≠ f := by intro e'; rw [e', hfn] at hg; cases hg
    rw [hV a, if_neg (by omega)]
  · exact absurd hg (hno g 0 i')

/-- is a frame one of a space? -/
def ownR (R : Roles) (r f : Nat) : Bool := match R f with
  | some (r', _, _) => r' == r
  | none => false
theorem ownR_iff {R : Roles} {r f : Nat} : ownR R r f = true ↔ ∃ l i, R f = some (r, l, i) := by
  unfold ownR
  constructor
  · intro h
    split at h
    · rename_i r' l i e
      obtain rfl : r' = r := by simpa using h
      exact ⟨l, i, e⟩
    · cases h
  · rintro ⟨l, i, e⟩
    rw [e]
    simp
def offR (R : Roles) (r : Nat) : Roles := fun f => if ownR R r f then none else R f
def PS.off (R : Roles) (r : Nat) (s : PS) : PS := ⟨fun f => s.Fr f || ownR R r f, fun a => if ownR R r (a / 256) then 0 else s.V a⟩
/-- a space less -/
theorem off_wf {F : Nat} {s : PS} {R : Roles} (h : WFS F s R) (r : Nat) : WFS F (s.off R r) (offR R r) := by
  have hoff : ∀ f x, offR R r f = some x → R f = some x ∧ ownR R r f = false := fun f x hx => by
    unfold offR at hx
    split at hx
    · cases hx
    · rename_i ho
      exact ⟨hx, by simpa using ho⟩
  have hon : ∀ f x, R f = some x → x.1 ≠ r → offR R r f = some x := fun f x hx hr => by
    have : ownR R r f = false := by unfold ownR; rw [hx]; simpa using hr
    unfold offR; rw [this]; exact hx
  have hne : ∀ f r' l i, offR R r f = some (r', l, i) → r' ≠ r := fun f r' l i hx e => by
    obtain ⟨a, b⟩ := hoff f _ hx
    unfold ownR at b
    rw [a] at b
    simp at b
    exact b e
  have hent : ∀ f k, k < 32 → ownR R r f = false → ent (s.off R r).V f k = ent s.V f k := fun f k hk ho => ent_congr hk fun a ha => by
    show (if ownR R r (a / 256) then 0 else s.V a) = _
    rw [ha, ho]; rfl
  refine ⟨fun f => ?_, fun f x hx => h.lt f x (hoff f x hx).1, fun f r' l i hf => ?_, fun f g x hf hg => h.inj f g x (hoff f x hf).1 (hoff g x hg).1, fun f r' l i k hf hk he => ?_⟩
  · show (s.Fr f || ownR R r f) = true ↔ _
    unfold offR
    by_cases e : ownR R r f = true
    · rw [e, if_pos rfl]
      obtain ⟨l, i, hi⟩ := ownR_iff.1 e
      simp [h.lt _ _ hi]
    · rw [if_neg e]
      simp at e
      rw [e, Bool.or_false]
      exact h.free f
  · rcases h.shape f r' l i (hoff _ _ hf).1 with a | ⟨a, f', b, c⟩
    · exact .inl a
    · have hb := hon f' _ b (hne f r' l i hf)
      exact .inr ⟨a, f', hb, by rw [hent f' _ (Nat.mod_lt _ (by decide)) (hoff _ _ hb).2]; exact c⟩
  · rw [hent f k hk (hoff _ _ hf).2] at he ⊢
    obtain ⟨g, bits, h1, h2⟩ := h.down f r' l i k (hoff _ _ hf).1 hk he
    exact ⟨g, bits, hon g _ h1 (hne f r' (l + 1) i hf), h2⟩
end Go.Proofs.YtijooajhjcfneaaGreat

namespace Go.Proofs.YtijooajhjcfneaaGreat
open Go.RowKit

/-- the part of a page's number at a level -/
def pt (page l : Nat) : Nat := page / 32 ^ l % 32
theorem pt_lt (page l : Nat) : pt page l < 32 := Nat.mod_lt _ (by decide)
theorem pow_step (page l : Nat) : page / 32 ^ (l + 1) = page / 32 ^ l / 32 := by rw [Nat.pow_succ, Nat.div_div_eq_div_mul]
theorem pt_join (page l : Nat) : page / 32 ^ (l + 1) * 32 + pt page l = page / 32 ^ l := by
  unfold pt
  rw [pow_step]
  generalize page / 32 ^ l = x
  omega
/-- the last that is there, going down, and its level -/
def deepG (f : Nat → Nat → Option Nat) : Nat → Nat → Nat × Nat
  | 0, t => (0, t)
  | l + 1, t => match f (l + 1) t with
    | none => (l + 1, t)
    | some t' => deepG f l t'
theorem deepG_none {f : Nat → Nat → Option Nat} {l t : Nat} (h : f (l + 1) t = none) : deepG f (l + 1) t = (l + 1, t) := by rw [deepG, h]
theorem deepG_some {f : Nat → Nat → Option Nat} {l t t' : Nat} (h : f (l + 1) t = some t') : deepG f (l + 1) t = deepG f l t' := by rw [deepG, h]
theorem opt_cases (o : Option Nat) : o = none ∨ ∃ x, o = some x := by
  cases o with
  | none => exact .inl rfl
  | some x => exact .inr ⟨x, rfl⟩
/-- the last table of a page that is there, and its level -/
def deep (V : Nat → Nat) (page l t : Nat) : Nat × Nat := deepG (fun l t => kid V t (pt page l)) l t
theorem deep_none {V : Nat → Nat} {page l t : Nat} (h : kid V t (pt page (l + 1)) = none) : deep V page (l + 1) t = (l + 1, t) := deepG_none (f := fun l t => kid V t (pt page l)) h
theorem deep_some {V : Nat → Nat} {page l t t' : Nat} (h : kid V t (pt page (l + 1)) = some t') : deep V page (l + 1) t = deep V page l t' := deepG_some (f := fun l t => kid V t (pt page l)) h
/-- all that a page lacks -/
def mapGo (F page bits : Nat) : PS → Nat → Nat → PS
  | s, 0, t => s.add F t (pt page 0) bits
  | s, l + 1, t => mapGo F page bits (s.add F t (pt page (l + 1)) 1) l (s.top F)
def mapS (F : Nat) (s : PS) (root page bits : Nat) : PS × Int :=
  if (deep s.V page 2 root).1 = 0 ∧ kid s.V (deep s.V page 2 root).2 (pt page 0) ≠ none then (s, 9)
  else if s.left F < (deep s.V page 2 root).1 + 1 then (s, 4)
  else (mapGo F page bits s (deep s.V page 2 root).1 (deep s.V page 2 root).2, 0)

theorem deep_wf {F : Nat} {s : PS} {R : Roles} (h : WFS F s R) (page r : Nat) : ∀ l t, R t = some (r, l + 1, page / 32 ^ (l + 1)) →
    (deep s.V page l t).1 ≤ l ∧ R (deep s.V page l t).2 = some (r, (deep s.V page l t).1 + 1, page / 32 ^ ((deep s.V page l t).1 + 1)) ∧ ((deep s.V page l t).1 ≠ 0 → kid s.V (deep s.V page l t).2 (pt page (deep s.V page l t).1) = none)
  | 0, t, ht => ⟨Nat.le_refl _, ht, fun h => absurd rfl h⟩
  | l + 1, t, ht => by
    rcases opt_cases (kid s.V t (pt page (l + 1))) with hk | ⟨t', hk⟩
    · rw [deep_none hk]
      exact ⟨Nat.le_refl _, ht, fun _ => hk⟩
    · rw [deep_some hk]
      have k := (h.kid ht (pt_lt _ _) hk).1
      rw [pt_join] at k
      obtain ⟨a, b⟩ := deep_wf h page r l t' k
      exact ⟨Nat.le_succ_of_le a, b⟩

/-- the bits of all pages -/
def AllBits (V : Nat → Nat) (R : Roles) (r bits : Nat) : Prop := ∀ t i k, R t = some (r, 1, i) → k < 32 → ent V t k % 2 = 1 → ent V t k % 1024 = bits

structure Mapped (F : Nat) (s : PS) (R : Roles) (s' : PS) (R' : Roles) (r page l bits : Nat) : Prop where
  grow : Grow F s R s' R' r
  has : ∀ l' i', hasB F R' r l' i' = (hasB F R r l' i' || (decide (l' ≤ l) && decide (i' = page / 32 ^ l')))
  left : s'.left F + (l + 1) = s.left F
  same : AllBits s.V R r bits → AllBits s'.V R' r bits
  fresh : ∀ f i, R' f = some (r, 0, i) → R f = some (r, 0, i) ∨ i = page ∧ R f = none ∧ (∀ a, a / 256 = f → s'.V a = 0) ∧ ∃ t, R' t = some (r, 1, page / 32) ∧ ent s'.V t (page % 32) = f * 1024 + bits

theorem mapGo_zero (F page bits : Nat) (s : PS) (t : Nat) : mapGo F page bits s 0 t = s.add F t (pt page 0) bits := rfl
theorem mapGo_succ (F page bits : Nat) (s : PS) (l t : Nat) : mapGo F page bits s (l + 1) t = mapGo F page bits (s.add F t (pt page (l + 1)) 1) l (s.top F) := rfl
set_option maxHeartbeats 1000000 in
theorem mapGo_base {F : Nat} (hF : F ≤ 256) (page bits r : Nat) (hb : bits < 32) (hb1 : bits % 2 = 1) (s : PS) (R : Roles) (t : Nat) (h : WFS F s R) (ht : R t = some (r, 0 + 1, page / 32 ^ (0 + 1))) (hk : kid s.V t (pt page 0) = none) (hc : 0 + 1 ≤ s.left F) :
    ∃ R', Mapped F s R (s.add F t (pt page 0) bits) R' r page 0 bits := by
  have he := kid_none.1 hk
  obtain ⟨g, hn, hh⟩ := add_grow hF h (by omega) ht (pt_lt page 0) he hb hb1 (fun h => absurd h (by omega))
  rw [pt_join] at g hh
  have hp0 : page / 32 ^ 0 = page := by rw [Nat.pow_zero, Nat.div_one]
  have hp1 : page / 32 ^ (0 + 1) = page / 32 := by rw [Nat.zero_add, Nat.pow_one]
  have hpt : pt page 0 = page % 32 := by unfold pt; rw [hp0]
  rw [hp0] at g hh
  have htF := h.lt _ _ ht
  have htn : t ≠ s.top F := by intro e; rw [e, hn] at ht; cases ht
  have hflt : s.top F < F := lst_lt (by show 0 < s.left F; omega)
  refine ⟨_, g, fun l' i' => ?_, ?_, fun ha t' i k ht' hk' he' => ?_, fun f i hf => ?_⟩
  · have e := congrFun (congrFun hh l') i'
    rw [e]
    unfold setP
    by_cases c : l' = 0 ∧ i' = page
    · obtain ⟨rfl, rfl⟩ := c
      rw [if_pos ⟨rfl, rfl⟩, decide_eq_true (Nat.le_refl 0), decide_eq_true hp0.symm]
      simp
    · rw [if_neg c]
      by_cases c1 : l' = 0
      · subst c1
        have c2 : i' ≠ page := fun e => c ⟨rfl, e⟩
        rw [hp0, decide_eq_false c2]; simp
      · rw [decide_eq_false (show ¬ l' ≤ 0 by omega)]; simp
  · exact PS.left_add (by omega) t (pt page 0) bits
  · show ent (s.add F t (pt page 0) bits).V t' k % 1024 = bits
    have he2 : ent (s.add F t (pt page 0) bits).V t' k % 2 = 1 := he'
    have hne : t' ≠ s.top F := by
      intro e
      rw [e, setR_same] at ht'
      cases ht'
    rw [setR_other R _ hne] at ht'
    by_cases c : t' = t ∧ k = pt page 0
    · obtain ⟨rfl, rfl⟩ := c
      rw [add_ent hF (by omega) htF (pt_lt _ _) (by omega)]
      generalize s.top F = f
      omega
    · rw [add_ent_old (by omega) hne (by omega) (pt_lt _ _) hk'] at he2 ⊢
      exact ha t' i k ht' hk' he2
  · by_cases e : f = s.top F
    · subst e
      rw [setR_same] at hf
      cases hf
      refine .inr ⟨rfl, hn, fun a ha => add_fresh hflt t (pt page 0) bits a htn ha (pt_lt _ _), t, ?_, ?_⟩
      · rw [setR_other R _ htn, ← hp1]; exact ht
      · rw [← hpt]
        exact add_ent hF (by omega) htF (pt_lt _ _) (by omega)
    · rw [setR_other R _ e] at hf
      exact .inl hf
set_option maxHeartbeats 1000000 in
theorem mapGo_step {F : Nat} (hF : F ≤ 256) (page bits r l : Nat) (ih : ∀ (s : PS) (R : Roles) (t : Nat), WFS F s R → R t = some (r, l + 1, page / 32 ^ (l + 1)) → kid s.V t (pt page l) = none → l + 1 ≤ s.left F → ∃ R', Mapped F s R (mapGo F page bits s l t) R' r page l bits)
    (s : PS) (R : Roles) (t : Nat) (h : WFS F s R) (ht : R t = some (r, l + 1 + 1, page / 32 ^ (l + 1 + 1))) (hk : kid s.V t (pt page (l + 1)) = none) (hc : l + 1 + 1 ≤ s.left F) :
    ∃ R', Mapped F s R (mapGo F page bits s (l + 1) t) R' r page (l + 1) bits := by
  rw [mapGo_succ]
  have he := kid_none.1 hk
  obtain ⟨g, hn, hh⟩ := add_grow hF h (by omega) ht (pt_lt page (l + 1)) he (show 1 < 32 by omega) rfl (fun _ => rfl)
  rw [pt_join] at g hh
  have htn : t ≠ s.top F := by intro e; rw [e, hn] at ht; cases ht
  have hleft := PS.left_add (show 0 < s.left F by omega) t (pt page (l + 1)) 1
  have hk2 : kid (s.add F t (pt page (l + 1)) 1).V (s.top F) (pt page l) = none := kid_none.2 (by rw [add_ent_new (by omega) htn (pt_lt _ _) (pt_lt _ _)])
  obtain ⟨R', m⟩ := ih (s.add F t (pt page (l + 1)) 1) _ (s.top F) g.wf (setR_same _ _ _) hk2 (by omega)
  refine ⟨R', g.trans m.grow, fun l' i' => ?_, ?_, fun ha => m.same fun t' i k ht' hk' he' => ?_, fun f i hf => ?_⟩
  · rw [m.has]
    have e := congrFun (congrFun hh l') i'
    rw [e]
    unfold setP
    by_cases c : l' = l + 1 ∧ i' = page / 32 ^ (l + 1)
    · obtain ⟨rfl, rfl⟩ := c
      rw [if_pos ⟨rfl, rfl⟩]
      simp
    · rw [if_neg c]
      by_cases c1 : l' = l + 1
      · subst c1
        have c2 : i' ≠ page / 32 ^ (l + 1) := fun e => c ⟨rfl, e⟩
        rw [decide_eq_false c2]; simp
      · rw [show decide (l' ≤ l + 1) = decide (l' ≤ l) from by rw [decide_eq_decide]; omega]
  · have := m.left
    show (mapGo F page bits (s.add F t (pt page (l + 1)) 1) l (s.top F)).left F + (l + 1 + 1) = s.left F
    omega
  · by_cases e : t' = s.top F
    · rw [e, add_ent_new (by omega) htn (pt_lt _ _) hk'] at he'
      cases he'
    · rw [setR_other R _ e] at ht'
      by_cases c : t' = t ∧ k = pt page (l + 1)
      · obtain ⟨rfl, rfl⟩ := c
        rw [ht] at ht'
        cases ht'
      · rw [add_ent_old (by omega) e (by omega) (pt_lt _ _) hk'] at he' ⊢
        exact ha t' i k ht' hk' he'
  · rcases m.fresh f i hf with a | ⟨a, b, c⟩
    · refine .inl ?_
      by_cases e : f = s.top F
      · rw [e, setR_same] at a
        cases a
      · rw [setR_other R _ e] at a; exact a
    · refine .inr ⟨a, ?_, c⟩
      by_cases e : f = s.top F
      · rw [e, setR_same] at b; cases b
      · rw [setR_other R _ e] at b; exact b

theorem mapGo_wf {F : Nat} (hF : F ≤ 256) (page bits r : Nat) (hb : bits < 32) (hb1 : bits % 2 = 1) : ∀ (l : Nat) (s : PS) (R : Roles) (t : Nat), WFS F s R → R t = some (r, l + 1, page / 32 ^ (l + 1)) → kid s.V t (pt page l) = none → l + 1 ≤ s.left F →
    ∃ R', Mapped F s R (mapGo F page bits s l t) R' r page l bits := by
  intro l
  induction l with
  | zero => intro s R t h ht hk hc; rw [mapGo_zero]; exact mapGo_base hF page bits r hb hb1 s R t h ht hk hc
  | succ l ih => exact mapGo_step hF page bits r l ih

/-- each table of a space leads to a page -/
def Full (R : Roles) : Prop := ∀ f r l i, R f = some (r, l, i) → l < 3 → ∃ g p, R g = some (r, 0, p) ∧ p / 32 ^ l = i
theorem mapS_cases {F : Nat} (hF : F ≤ 256) {s : PS} {R : Roles} (h : WFS F s R) (hu : Full R) {r page bits : Nat} (hr : R r = some (r, 3, 0)) (hp : page < 32768) (hb : bits < 32) (hb1 : bits % 2 = 1) :
    (mapS F s r page bits = (s, 9) ∧ hasB F R r 0 page = true) ∨ (mapS F s r page bits = (s, 4) ∧ hasB F R r 0 page = false ∧ s.left F < (deep s.V page 2 r).1 + 1) ∨
    (hasB F R r 0 page = false ∧ (mapS F s r page bits).2 = 0 ∧ ∃ R' l, l ≤ 2 ∧ Mapped F s R (mapS F s r page bits).1 R' r page l bits ∧ Full R' ∧ (∀ l', l' ≤ 2 → (l' ≤ l ↔ hasB F R r l' (page / 32 ^ l') = false)) ∧ l = (deep s.V page 2 r).1) := by
  have h3 : page / 32 ^ (2 + 1) = 0 := Nat.div_eq_of_lt (by omega)
  obtain ⟨d1, d2, d3⟩ := deep_wf h page r 2 r (by rw [h3]; exact hr)
  have hlt := h.lt
  unfold mapS
  generalize (deep s.V page 2 r).1 = l at *
  generalize (deep s.V page 2 r).2 = t at *
  have hp0 : page / 32 ^ 0 = page := by rw [Nat.pow_zero, Nat.div_one]
  -- below the last table there is none
  have hno : kid s.V t (pt page l) = none → ∀ l', l' ≤ l → hasB F R r l' (page / 32 ^ l') = false := fun hk => by
    have top : ∀ g, R g ≠ some (r, l, page / 32 ^ l) := fun g hg => by
      rw [← pt_join] at hg
      rw [h.kid_of d2 (by omega) (pt_lt _ _) hg] at hk
      cases hk
    have down : ∀ n l', l' + n = l → ∀ g, R g ≠ some (r, l', page / 32 ^ l') := by
      intro n
      induction n with
      | zero => intro l' e g hg; obtain rfl : l' = l := by omega
                exact top g hg
      | succ n ih => intro l' e g hg
                     obtain ⟨f', _, a, _⟩ := h.above hg (by omega)
                     rw [← pow_step] at a
                     exact ih (l' + 1) (by omega) f' a
    intro l' hl'
    cases hh : hasB F R r l' (page / 32 ^ l') with
    | false => rfl
    | true => obtain ⟨g, hg⟩ := (hasB_iff hlt _ _ _).1 hh; exact absurd hg (down (l - l') l' (by omega) g)
  have hup : ∀ n l', l' = l + 1 + n → l' ≤ 3 → ∃ g, R g = some (r, l', page / 32 ^ l') := by
    intro n
    induction n with
    | zero => intro l' e _; obtain rfl : l' = l + 1 := by omega
              exact ⟨t, d2⟩
    | succ n ih => intro l' e hl'
                   obtain ⟨g, hg⟩ := ih (l + 1 + n) rfl (by omega)
                   obtain ⟨f', _, a, _⟩ := h.above hg (by omega)
                   rw [← pow_step] at a
                   exact ⟨f', by rw [show l' = l + 1 + n + 1 from by omega]; exact a⟩
  by_cases c : l = 0 ∧ kid s.V t (pt page 0) ≠ none
  · rw [if_pos c]
    refine .inl ⟨rfl, ?_⟩
    obtain ⟨rfl, hk⟩ := c
    rcases opt_cases (kid s.V t (pt page 0)) with hg | ⟨g, hg⟩
    · exact absurd hg hk
    · have k := (h.kid d2 (pt_lt _ _) hg).1
      rw [pt_join, hp0] at k
      exact (hasB_iff hlt _ _ _).2 ⟨g, k⟩
  · rw [if_neg c]
    have hk : kid s.V t (pt page l) = none := by
      by_cases e : l = 0
      · subst e
        rcases opt_cases (kid s.V t (pt page 0)) with hg | ⟨g, hg⟩
        · exact hg
        · exact absurd ⟨rfl, by rw [hg]; exact Option.some_ne_none _⟩ c
      · exact d3 e
    have hn0 : hasB F R r 0 page = false := by
      have := hno hk 0 (Nat.zero_le _)
      rw [hp0] at this
      exact this
    by_cases c2 : s.left F < l + 1
    · rw [if_pos c2]
      exact .inr (.inl ⟨rfl, hn0, c2⟩)
    · rw [if_neg c2]
      obtain ⟨R', m⟩ := mapGo_wf hF page bits r hb hb1 l s R t h d2 hk (by omega)
      refine .inr (.inr ⟨hn0, rfl, R', l, d1, m, ?_, fun l' hl' => ⟨hno hk l', fun hf => ?_⟩, rfl⟩)
      · intro f r' l' i hf hl'
        have hw := m.grow.wf
        by_cases e : r' = r
        · subst e
          have hb' : hasB F R' r' l' i = true := (hasB_iff hw.lt _ _ _).2 ⟨f, hf⟩
          rw [m.has, Bool.or_eq_true] at hb'
          rcases hb' with a | a
          · obtain ⟨g, hg⟩ := (hasB_iff hlt _ _ _).1 a
            obtain ⟨g', p, h1, h2⟩ := hu g r' l' i hg hl'
            exact ⟨g', p, m.grow.sub _ _ h1, h2⟩
          · simp at a
            have hb2 : hasB F R' r' 0 page = true := by rw [m.has]; simp
            obtain ⟨g, hg⟩ := (hasB_iff hw.lt _ _ _).1 hb2
            exact ⟨g, page, hg, a.2.symm⟩
        · obtain ⟨g', p, h1, h2⟩ := hu f r' l' i (m.grow.oth f r' l' i e hf) hl'
          exact ⟨g', p, m.grow.sub _ _ h1, h2⟩
      · refine Classical.byContradiction fun hh => ?_
        obtain ⟨g, hg⟩ := hup (l' - (l + 1)) l' (by omega) (by omega)
        have := (hasB_iff hlt _ _ _).2 ⟨g, hg⟩
        rw [this] at hf
        cases hf
end Go.Proofs.YtijooajhjcfneaaGreat
