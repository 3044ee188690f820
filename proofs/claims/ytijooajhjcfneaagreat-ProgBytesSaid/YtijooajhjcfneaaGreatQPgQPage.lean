/-
  A page as the document fills it, byte by byte, in plain numbers: the same as the program's.
-/
import Derived.Test.YtijooajhjcfneaaGreatQPgPure
import Derived.Test.YtijooajhjcfneaaGreatG26
namespace Go.Proofs.YtijooajhjcfneaaGreat
open Go.RowKit

theorem putV_alike {V : Nat → Nat} {a n m : Nat} {U U' : Nat → Nat} (hnm : n ≤ m) (h1 : ∀ o, o < n → U o = U' o) (h2 : ∀ o, n ≤ o → o < m → U' o = 0 ∧ V (a + o) = 0) : putV V a n U = putV V a m U' := by
  funext i
  unfold putV
  by_cases c1 : a ≤ i ∧ i < a + n
  · rw [if_pos c1, if_pos (by omega)]
    exact h1 _ (by omega)
  · rw [if_neg c1]
    by_cases c2 : a ≤ i ∧ i < a + m
    · rw [if_pos c2]
      obtain ⟨e1, e2⟩ := h2 (i - a) (by omega) (by omega)
      rw [show a + (i - a) = i by omega] at e2
      rw [e1, e2]
    · rw [if_neg c2]
theorem byt_ext' (s : ByteArray) (a b k : Nat) (hb : b ≤ s.size) (hk : a + k < b) : byt (s.extract a b) k = byt s (a + k) := by
  unfold byt
  rw [ByteArray.data_extract, Array.toList_extract]
  rw [List.extract_eq_take_drop]
  simp only [List.getD]
  rw [List.getElem?_take_of_lt (by omega), List.getElem?_drop]
/-- the page's bytes when so many have been put into it -/
def qpV (ms : PS) (g : Nat) (str : ByteArray) (fr j : Nat) : Nat → Nat := putV ms.V (g * 256) j (fun o => byt str (fr + o))
theorem qpV_zero (ms : PS) (g : Nat) (str : ByteArray) (fr : Nat) : qpV ms g str fr 0 = ms.V := by unfold qpV; rw [putV_none]
theorem qpV_next (ms : PS) (g : Nat) (str : ByteArray) (fr j : Nat) : putV (qpV ms g str fr j) (g * 256 + j) 1 (fun _ => byt str (fr + j)) = qpV ms g str fr (j + 1) := by
  unfold qpV
  generalize g * 256 = G
  funext i
  unfold putV
  by_cases c : G + j ≤ i ∧ i < G + j + 1
  · rw [if_pos c, if_pos (by omega), show i - G = j by omega]
  · rw [if_neg c]
    by_cases c2 : G ≤ i ∧ i < G + j
    · rw [if_pos c2, if_pos (by omega)]
    · rw [if_neg c2, if_neg (by omega)]
theorem byt_beyond (s : ByteArray) (k : Nat) (h : s.size ≤ k) : byt s k = 0 := by
  unfold byt
  simp only [List.getD]
  rw [List.getElem?_eq_none (by simpa using h)]
  rfl
/-- what the document's calls answer while a page is filled -/
structure QPg (S : Nat → Prop) (rq r F root i bits fr : Nat) (str : ByteArray) (s s' ms : PS) (g J : Nat) : Prop where
  km : ∀ W, RQ S W rq r F s.Fr s.V → Calls Tryz.prog 36 #[.pointer (some ⟨rq, 0, none⟩), .int .i64 root, .int .i64 i, .int .u64 bits] W (StepQ S W rq r F ms.Fr ms.V (.int .i64 0))
  kw : ∀ W j, j < J → RQ S W rq r F ms.Fr (qpV ms g str fr j) → Calls Tryz.prog 37 #[.pointer (some ⟨r, 0, none⟩), .int .i64 root, .int .u64 ((256 * i + j : Nat) : Int), .int .i64 1] W (StepQ S W rq r F ms.Fr (qpV ms g str fr j) (.tuple #[.int .u64 ((g * 256 + j : Nat) : Int), .int .i64 0]))
  glt : g < F
  hJ : J = min 256 (str.size - fr)
  fin : (⟨ms.Fr, qpV ms g str fr J⟩ : PS) = s'
/-- a page's address is come to -/
theorem tb_page {F root i bits t g : Nat} {s ms : PS} {R R' : Roles} (h : PgAt F root i bits s ms R R' t g) (hbits : bits = 27 ∨ bits = 23) (hi : i < 32768) (j : Nat) (hj : j < 256) : tbAt ms.V F root (256 * i + j) 1 = some (g * 256 + j) := by
  have hg := h.glt
  unfold tbAt
  rw [if_neg (by omega)]
  unfold tbWalk
  have hl : tbLeaf ms.V F root (256 * i + j) = tbLeaf ms.V F root (i * 256) := by
    unfold tbLeaf
    rw [show (256 * i + j) / 262144 = i * 256 / 262144 by omega, show (256 * i + j) / 8192 = i * 256 / 8192 by omega, show (256 * i + j) / 256 = i * 256 / 256 by omega]
  rw [hl, h.leaf, Option.bind_some]
  have e : entV ms.V (t * 256 + 8 * pt i 0) = g * 1024 + bits := h.ent
  rw [e]
  have e1 : (g * 1024 + bits) / 1024 = g := by omega
  have hm : tbMay F (g * 1024 + bits) 1 = true := by
    unfold tbMay
    rw [e1]
    apply decide_eq_true
    rcases hbits with rfl | rfl
    · refine ⟨by omega, by omega, ?_, hg⟩
      rw [Nat.pow_one]; omega
    · refine ⟨by omega, by omega, ?_, hg⟩
      rw [Nat.pow_one]; omega
  rw [if_pos hm, e1, show (256 * i + j) % 256 = j by omega]
theorem put_tables {root i g n : Nat} {ms : PS} {R' : Roles} {U : Nat → Nat} (hg : R' g = some (root, 0, i)) (hn : n ≤ 256) (t l k q : Nat) (ht : R' t = some (root, l + 1, k)) (hq : q < 32) : ent (putV ms.V (g * 256) n U) t q = ent ms.V t q := by
  refine ent_congr hq fun a ha => ?_
  unfold putV
  rw [if_neg]
  intro hc
  have : a / 256 = g := by omega
  rw [← ha, this, hg] at ht
  cases ht
theorem QPg.of {S : Nat → Prop} {rq r F root i bits fr t g : Nat} {str c : ByteArray} {s ms s' : PS} {R R' : Roles} (hF : F ≤ 256) (hi : i < 32768) (hbits : bits = 27 ∨ bits = 23) (hW : WFS F s R) (hr : R root = some (root, 3, 0)) (h : PgAt F root i bits s ms R R' t g)
    (hc : c.size ≤ min 256 (str.size - fr)) (h1 : ∀ o, o < c.size → byt c o = byt str (fr + o)) (h2 : ∀ o, c.size ≤ o → o < 256 → byt str (fr + o) = 0)
    (hs : (⟨ms.Fr, putV ms.V (g * 256) c.size (byt c)⟩ : PS) = s') : QPg S rq r F root i bits fr str s s' ms g (min 256 (str.size - fr)) := by
  have hR' := h.grow.wf
  have hr' := h.grow.sub _ _ hr
  have hrF := hW.lt _ _ hr
  refine ⟨fun W H => ?_, fun W j hj H => ?_, h.glt, rfl, ?_⟩
  · exact q_map H hF hW root i bits hr hi (by rcases hbits with rfl | rfl <;> decide) (by rcases hbits with rfl | rfl <;> decide) h.map
  · have k := q_wk H hF (root : Int) (256 * i + j) 1
    have e := wkR_at (qpV ms g str fr j) F root (256 * i + j) 1 hrF (by omega)
    have e2 : tbAt (qpV ms g str fr j) F root (256 * i + j) 1 = some (g * 256 + j) := by
      have q := tbAt_same (V' := qpV ms g str fr j) hR' hr' (fun t l i k ht hk => put_tables h.role (by omega) t l i k ht hk) (256 * i + j) 1
      exact q.trans (tb_page h hbits hi j (by omega))
    rw [e2] at e
    rw [show (1 : Int) = ((1 : Nat) : Int) from rfl] at k ⊢
    rw [e] at k
    exact k
  · rw [← hs]
    congr 1
    symm
    refine putV_alike hc h1 fun o h3 h4 => ⟨h2 o h3 (by omega), h.zero _ (by omega)⟩
/-- the k-th chunk of a text -/
theorem chB_size_eq (str : ByteArray) (k : Nat) : (chB str k).size = min 256 (str.size - 256 * k) := by unfold chB; rw [ByteArray.size_extract]; omega
theorem chB_at (str : ByteArray) (k o : Nat) (ho : o < (chB str k).size) : byt (chB str k) o = byt str (256 * k + o) := by
  rw [chB_size_eq] at ho
  unfold chB
  rw [byt_ext' str _ _ o (by omega) (by omega)]
  congr 1
  omega
theorem chB_behind (str : ByteArray) (k o : Nat) (ho : (chB str k).size ≤ o) (h2 : o < 256) : byt str (256 * k + o) = 0 := by
  rw [chB_size_eq] at ho
  exact byt_beyond _ _ (by omega)
/-- data, and noughts behind it -/
def dzB (d : ByteArray) (b : Nat) : ByteArray := d ++ zerosB b
theorem dzB_size (d : ByteArray) (b : Nat) : (dzB d b).size = d.size + b := by unfold dzB; rw [ByteArray.size_append, zerosB_size]
theorem dzB_at (d : ByteArray) (b k : Nat) : byt (dzB d b) k = byt d k := by
  unfold byt dzB zerosB
  rw [ByteArray.data_append]
  simp only [List.getD, Array.toList_append]
  by_cases h : k < d.data.toList.length
  · rw [List.getElem?_append_left h]
  · rw [List.getElem?_append_right (by omega), List.getElem?_eq_none (show d.data.toList.length ≤ k by omega)]
    by_cases h2 : k - d.data.toList.length < b
    · show ((List.replicate b (0 : UInt8))[k - d.data.toList.length]?.getD 0).toNat = _
      rw [List.getElem?_replicate, if_pos h2]
      rfl
    · show ((List.replicate b (0 : UInt8))[k - d.data.toList.length]?.getD 0).toNat = _
      rw [List.getElem?_replicate, if_neg h2]
/-- a program's pages, as the document fills them: so many of them -/
def dcS (F root a : Nat) (st : PS) (x : Prg) (k : Nat) : PS := if k ≤ a then flN F root 1 27 x.text st k else flN F root (1 + a) 23 x.data (flN F root 1 27 x.text st a) (k - a)
theorem dcS_low {F root a : Nat} {st : PS} {x : Prg} {k : Nat} (h : k ≤ a) : dcS F root a st x k = flN F root 1 27 x.text st k := by unfold dcS; rw [if_pos h]
theorem dcS_high {F root a : Nat} {st : PS} {x : Prg} {k : Nat} (h : a ≤ k) : dcS F root a st x k = flN F root (1 + a) 23 x.data (flN F root 1 27 x.text st a) (k - a) := by
  unfold dcS
  by_cases c : k ≤ a
  · obtain rfl : k = a := by omega
    rw [if_pos c, Nat.sub_self]
    rfl
  · rw [if_neg c]
theorem dc_inv {F : Nat} {s : PS} {R : Roles} {x : Prg} {a b m : Nat} (hF : F ≤ 256) (g : SG F s R) (hm : m = a + b) (hm28 : m ≤ 28) (hl : m + 12 ≤ s.left F) : ∀ k, k ≤ m → ∃ R', FI F (s.top F) (shQ m) (dcS F (s.top F) a (s.take F) x k) R' ∧ ∀ j, hasB F R' (s.top F) 0 j = decide (1 ≤ j ∧ j < 1 + k) := by
  intro k hk
  obtain ⟨f0, h0⟩ := FI.start g hm28 hl
  by_cases c : k ≤ a
  · obtain ⟨R1, f1, h1⟩ := fl_pure (page := 1) (bits := 27) (str := x.text) hF f0 (by decide) (by decide) k (by omega) (fun i _ => h0 _) (fun i hi l hl => shQ_low m (1 + i) (by omega) (by omega) hm28 l hl)
    rw [dcS_low c]
    exact ⟨R1, f1, fun j => by rw [h1, h0, Bool.false_or]⟩
  · obtain ⟨R1, f1, h1⟩ := fl_pure (page := 1) (bits := 27) (str := x.text) hF f0 (by decide) (by decide) a (by omega) (fun i _ => h0 _) (fun i hi l hl => shQ_low m (1 + i) (by omega) (by omega) hm28 l hl)
    obtain ⟨R2, f2, h2⟩ := fl_pure (page := 1 + a) (bits := 23) (str := x.data) hF f1 (by decide) (by decide) (k - a) (by omega) (fun i _ => by rw [h1, h0, decide_eq_false (by omega)]; rfl) (fun i hi l hl => shQ_low m (1 + a + i) (by omega) (by omega) hm28 l hl)
    rw [dcS_high (by omega)]
    refine ⟨R2, f2, fun j => ?_⟩
    rw [h2, h1, h0, Bool.false_or, ← Bool.decide_or]
    apply Bool.eq_iff_iff.2
    rw [decide_eq_true_eq, decide_eq_true_eq]
    omega
theorem dc_text {S : Nat → Prop} {rq r F : Nat} {s : PS} {R : Roles} {x : Prg} {a b m : Nat} (hF : F ≤ 256) (g : SG F s R) (hm : m = a + b) (hm28 : m ≤ 28) (hl : m + 12 ≤ s.left F) (k : Nat) (hk : k < a) :
    ∃ ms gg J, QPg S rq r F (s.top F) (1 + k) 27 (256 * k) x.text (dcS F (s.top F) a (s.take F) x k) (dcS F (s.top F) a (s.take F) x (k + 1)) ms gg J := by
  obtain ⟨R', f, hb⟩ := dc_inv (x := x) hF g hm hm28 hl k (by omega)
  obtain ⟨ms, R2, t, gg, pa, _⟩ := f.step (i := 1 + k) (bits := 27) hF (by omega) (by decide) (by decide) (by rw [hb]; exact decide_eq_false (by omega)) (fun l hl => shQ_low m (1 + k) (by omega) (by omega) hm28 l hl)
  refine ⟨ms, gg, _, QPg.of (c := chB x.text k) hF (by omega) (.inl rfl) f.g.wf f.r pa (by rw [chB_size_eq]; omega) (fun o ho => chB_at _ _ _ ho) (fun o h1 h2 => chB_behind _ _ _ h1 h2) ?_⟩
  rw [dcS_low (show k + 1 ≤ a from hk)]
  have e := flS_at pa (chB x.text k)
  rw [dcS_low (Nat.le_of_lt hk)] at e
  exact e.symm
theorem dc_data {S : Nat → Prop} {rq r F : Nat} {s : PS} {R : Roles} {x : Prg} {a b m z : Nat} (hF : F ≤ 256) (g : SG F s R) (hm : m = a + b) (hm28 : m ≤ 28) (hl : m + 12 ≤ s.left F) (k : Nat) (hk : a ≤ k) (hkm : k < m) :
    ∃ ms gg J, QPg S rq r F (s.top F) (1 + k) 23 (256 * (k - a)) (dzB x.data z) (dcS F (s.top F) a (s.take F) x k) (dcS F (s.top F) a (s.take F) x (k + 1)) ms gg J := by
  obtain ⟨R', f, hb⟩ := dc_inv (x := x) hF g hm hm28 hl k (by omega)
  obtain ⟨ms, R2, t, gg, pa, _⟩ := f.step (i := 1 + k) (bits := 23) hF (by omega) (by decide) (by decide) (by rw [hb]; exact decide_eq_false (by omega)) (fun l hl => shQ_low m (1 + k) (by omega) (by omega) hm28 l hl)
  refine ⟨ms, gg, _, QPg.of (c := chB x.data (k - a)) hF (by omega) (.inr rfl) f.g.wf f.r pa (by rw [chB_size_eq, dzB_size]; omega) (fun o ho => by rw [dzB_at]; exact chB_at _ _ _ ho) (fun o h1 h2 => by rw [dzB_at]; exact chB_behind _ _ _ h1 h2) ?_⟩
  rw [dcS_high (show a ≤ k + 1 by omega), show k + 1 - a = (k - a) + 1 by omega]
  have e := flS_at pa (chB x.data (k - a))
  rw [dcS_high hk] at e
  rw [show 1 + k = 1 + a + (k - a) by omega] at e
  exact e.symm
/-- the stack's pages -/
theorem dc_stack {S : Nat → Prop} {rq r F : Nat} {s : PS} {R : Roles} {x : Prg} {a b m : Nat} (hF : F ≤ 256) (g : SG F s R) (hm : m = a + b) (hm28 : m ≤ 28) (hl : m + 12 ≤ s.left F) (k : Nat) (hk : k < 8) :
    ∃ ms, (∀ W, RQ S W rq r F (flN F (s.top F) 56 23 ⟨#[]⟩ (dcS F (s.top F) a (s.take F) x m) k).Fr (flN F (s.top F) 56 23 ⟨#[]⟩ (dcS F (s.top F) a (s.take F) x m) k).V → Calls Tryz.prog 36 #[.pointer (some ⟨rq, 0, none⟩), .int .i64 (s.top F : Nat), .int .i64 (56 + k : Nat), .int .u64 23] W (StepQ S W rq r F ms.Fr ms.V (.int .i64 0))) ∧ ms = flN F (s.top F) 56 23 ⟨#[]⟩ (dcS F (s.top F) a (s.take F) x m) (k + 1) := by
  obtain ⟨R', f, hb⟩ := dc_inv (x := x) hF g hm hm28 hl m (Nat.le_refl _)
  obtain ⟨R3, f3, h3⟩ := fl_pure (page := 56) (bits := 23) (str := ⟨#[]⟩) hF f (by decide) (by decide) k (by omega) (fun i hi => by rw [hb]; exact decide_eq_false (by omega)) (fun i hi l hl => shQ_high m (56 + i) (by omega) (by omega) l hl)
  obtain ⟨ms, R2, t, gg, pa, _⟩ := f3.step (i := 56 + k) (bits := 23) hF (by omega) (by decide) (by decide) (by rw [h3, hb, decide_eq_false (by omega), decide_eq_false (by omega)]; rfl) (fun l hl => shQ_high m (56 + k) (by omega) (by omega) l hl)
  refine ⟨ms, fun W H => q_map H hF f3.g.wf _ _ 23 f3.r (by omega) (by decide) (by decide) pa.map, ?_⟩
  have e := flS_at pa (chB ⟨#[]⟩ k)
  have hz : (chB ⟨#[]⟩ k).size = 0 := by rw [chB_size_eq]; show min 256 (0 - 256 * k) = 0; omega
  rw [hz, putV_none] at e
  exact e.symm
theorem memStr_noughts (n : Nat) : memStr (fun _ => 0) 0 n = zerosB n := by
  unfold memStr zerosB
  apply ByteArray.ext
  apply Array.ext'
  rw [strOfNums_data]
  apply List.ext_getElem
  · simp
  · intro i h1 h2
    simp
end Go.Proofs.YtijooajhjcfneaaGreat
