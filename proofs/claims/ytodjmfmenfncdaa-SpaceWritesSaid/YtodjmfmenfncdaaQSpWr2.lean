/-
  Spaces in plain numbers: SpaceWrites' law.
-/
import Derived.Test.YtodjmfmenfncdaaQSpWr
namespace Go.Proofs.Ytodjmfmenfncdaa
open Go.RowKit

theorem one_list {α : Type} (l : List α) (d : α) (h : l.length = 1) : l = [l.getD 0 d] := by
  match l, h with
  | [x], _ => rfl
theorem inS_map (V : Nat → Nat) : ∀ xs : List Nat, inS V xs = xs.map fun a => (memStr V a 1).data.toList.getD 0 0
  | [] => rfl
  | x :: xs => by
    have h : inS V (x :: xs) = (memStr V x 1).data.toList ++ inS V xs := by unfold inS; rw [List.flatMap_cons]
    rw [h, inS_map V xs, List.map_cons]
    have h1 := one_list (memStr V x 1).data.toList 0 (memStr_one_len V x)
    generalize (memStr V x 1).data.toList = l at *
    rw [h1]
    rfl
/-- the bytes are those that were put -/
theorem inS_eq {V : Nat → Nat} {ys : List Nat} {b : ByteArray} (hV : ∀ i, V i < 256) (hl : ys.length = b.size) (hg : ∀ i (hi : i < ys.length), V ys[i] = byt b i) : (⟨(inS V ys).toArray⟩ : ByteArray) = b := by
  have hb : b.data.toList.length = b.size := by simp
  have e : inS V ys = b.data.toList := by
    rw [inS_map]
    refine List.ext_getElem (by rw [List.length_map, hl, hb]) fun i h1 h2 => ?_
    rw [List.getElem_map]
    have hi : i < ys.length := by rw [List.length_map] at h1; exact h1
    have h3 := byt_memStr V hV ys[i] 1 0 (by omega)
    rw [Nat.add_zero, hg i hi] at h3
    unfold byt at h3
    have h4 := UInt8.toNat_inj.1 h3
    rw [h4, List.getD, List.getElem?_eq_getElem h2]
    rfl
  rw [e]
theorem mem_pagesL {F : Nat} {Fr : Nat → Bool} {V : Nat → Nat} {R : Roles} (h : WF F Fr V R) {root : Nat} (hr : R root = some (root, 3, 0)) (i : Nat) : (i : Int) ∈ pagesL V root ↔ hasB F R root 0 i = true := by
  unfold pagesL pgs
  rw [List.mem_filter, List.mem_map]
  constructor
  · rintro ⟨⟨v, hv, e⟩, _⟩
    obtain ⟨k, hk, hv2⟩ := mem_visT.1 hv
    rcases vis_page h root 2 root 0 k hr hk v hv2 with ⟨e2, _⟩ | ⟨j, e2, e3, _⟩
    · rw [e2] at e; omega
    · rw [e2] at e
      have : j = i := Int.ofNat.inj e
      rw [this] at e3
      exact (hasB_iff h.lt _ _ _).2 ⟨_, e3⟩
  · intro hh
    obtain ⟨g, hg⟩ := (hasB_iff h.lt _ _ _).1 hh
    obtain ⟨v, hv, e⟩ := vis_page_all h hr hg
    exact ⟨⟨v, hv, e⟩, by simp⟩
/-- is an address in one of the first k pages of the list? -/
def isB (l : List Int) (a : Nat) : Nat → Bool
  | 0 => false
  | k + 1 => isB l a k || (decide (a < 8388608) && decide (l.getD k 0 = ((a / 256 : Nat) : Int)))
theorem isB_iff (l : List Int) (a : Nat) : ∀ k, k ≤ l.length → (isB l a k = true ↔ a < 8388608 ∧ ∃ j, ∃ hj : j < l.length, j < k ∧ l[j] = ((a / 256 : Nat) : Int))
  | 0, _ => by
    constructor
    · intro h; cases h
    · rintro ⟨_, j, _, h, _⟩; omega
  | k + 1, hk => by
    have e : l.getD k 0 = l[k]'(by omega) := by rw [List.getD, List.getElem?_eq_getElem (by omega)]; rfl
    show (isB l a k || (decide (a < 8388608) && decide (l.getD k 0 = ((a / 256 : Nat) : Int)))) = true ↔ _
    rw [Bool.or_eq_true, Bool.and_eq_true, isB_iff l a k (by omega), decide_eq_true_iff, decide_eq_true_iff, e]
    constructor
    · rintro (⟨h1, j, hj, h2, h3⟩ | ⟨h1, h2⟩)
      · exact ⟨h1, j, hj, by omega, h3⟩
      · exact ⟨h1, k, by omega, by omega, h2⟩
    · rintro ⟨h1, j, hj, h2, h3⟩
      by_cases c : j = k
      · subst c; exact .inr ⟨h1, h3⟩
      · exact .inl ⟨h1, j, hj, by omega, h3⟩
theorem isB_ok {F : Nat} {Fr : Nat → Bool} {V : Nat → Nat} {R : Roles} (h : WF F Fr V R) {root : Nat} (hr : R root = some (root, 3, 0)) (a : Nat) : isB (pagesL V root) a (pagesL V root).length = okB F R root a := by
  apply Bool.eq_iff_iff.2
  rw [isB_iff _ _ _ (Nat.le_refl _)]
  unfold okB
  rw [Bool.and_eq_true, decide_eq_true_iff, ← mem_pagesL h hr]
  constructor
  · rintro ⟨h1, j, hj, _, h3⟩
    exact ⟨h1, by rw [← h3]; exact List.getElem_mem _⟩
  · rintro ⟨h1, h2⟩
    obtain ⟨j, hj, e⟩ := List.mem_iff_getElem.1 h2
    exact ⟨h1, j, hj, hj, e⟩
def mayB (ok : Nat → Bool) (at_ : Nat) : Nat → Bool
  | 0 => true
  | j + 1 => mayB ok at_ j && ok ((at_ + j) % 18446744073709551616)
theorem mayB_all (ok : Nat → Bool) (at_ : Nat) : ∀ j, mayB ok at_ j = true → ∀ i, i < j → ok ((at_ + i) % 18446744073709551616) = true
  | 0, _, i, hi => by omega
  | j + 1, h, i, hi => by
    have h' : (mayB ok at_ j && ok ((at_ + j) % 18446744073709551616)) = true := h
    rw [Bool.and_eq_true] at h'
    by_cases c : i = j
    · subst c; exact h'.2
    · exact mayB_all ok at_ j h'.1 i (by omega)
theorem mayB_not (ok : Nat → Bool) (at_ : Nat) : ∀ j, mayB ok at_ j = false → ∃ i, i < j ∧ ok ((at_ + i) % 18446744073709551616) = false
  | 0, h => by cases h
  | j + 1, h => by
    have h' : (mayB ok at_ j && ok ((at_ + j) % 18446744073709551616)) = false := h
    rw [Bool.and_eq_false_iff] at h'
    rcases h' with h' | h'
    · obtain ⟨i, hi, e⟩ := mayB_not ok at_ j h'
      exact ⟨i, by omega, e⟩
    · exact ⟨j, by omega, h'⟩
/-- between the pages -/
structure WrS (s : PS) (R : Roles) : Prop where
  g : SG 60 s R
  r : R 0 = some (0, 3, 0)
  ab : AllBits s.V R 0 23
theorem wr_map {s : PS} {R : Roles} (h : WrS s R) (page : Int) {s' : PS} {e : Int} (hs : mapR 60 s 0 page 23 = (s', e)) : ∃ R', WrS s' R' := by
  unfold mapR at hs
  by_cases c : page < 0 ∨ 32768 ≤ page ∨ 23 % 2 = 0 ∨ 31 < 23
  · rw [if_pos c] at hs
    obtain ⟨rfl, rfl⟩ := Prod.mk.inj hs
    exact ⟨R, h⟩
  · rw [if_neg c] at hs
    have hp : page.toNat < 32768 := by omega
    clear c
    generalize page.toNat = n at *
    rcases mapS_cases (by decide) h.g.wf h.g.full h.r hp (show 23 < 32 by decide) (show 23 % 2 = 1 by decide) with ⟨k, _⟩ | ⟨k, _⟩ | ⟨_, _, R', l, _, m, hf, _⟩
    · rw [k] at hs; obtain ⟨rfl, rfl⟩ := Prod.mk.inj hs; exact ⟨R, h⟩
    · rw [k] at hs; obtain ⟨rfl, rfl⟩ := Prod.mk.inj hs; exact ⟨R, h⟩
    · rw [hs] at m; exact ⟨R', ⟨m.grow.wf, hf⟩, m.grow.sub _ _ h.r, m.same h.ab⟩
theorem out_tables {F : Nat} {s : PS} {R : Roles} (g : SG F s R) {root at_ : Nat} (hr : R root = some (root, 3, 0)) {ys : List Nat} {n : Nat} (b : ByteArray) (h : adrs s.V F root at_ 2 n = some ys) {f r l i a : Nat} (hf : R f = some (r, l + 1, i)) (ha : a / 256 = f) : outV s.V ys b n a = s.V a := by
  refine outV_same n (Nat.le_of_eq (adrs_len n ys h).symm) fun hm => ?_
  obtain ⟨i', e⟩ := adrs_role g.wf hr n ys h a hm
  rw [ha, hf] at e
  cases e
theorem wr_yes {s : PS} {R : Roles} (h : WrS s R) (at_ : Nat) (b : ByteArray) (hn : b.size ≤ 4096) (hm : mayB (okB 60 R 0) at_ b.size = true) : ∃ ys, adrs s.V 60 0 at_ 2 b.size = some ys ∧ SG 60 ⟨s.Fr, outV s.V ys b b.size⟩ R ∧ adrs (outV s.V ys b b.size) 60 0 at_ 1 b.size = some ys ∧
    ((∀ i, outV s.V ys b b.size i < 256) → (⟨(inS (outV s.V ys b b.size) ys).toArray⟩ : ByteArray) = b) := by
  obtain ⟨ys, hy⟩ := adrs_some h.g.wf h.r h.ab (.inr rfl) b.size (mayB_all _ _ _ hm)
  have g' := good_out h.g h.r b hy
  have hl := adrs_len _ _ hy
  have ab' : AllBits (outV s.V ys b b.size) R 0 23 := fun t i k ht hk he => by
    have e : ent (outV s.V ys b b.size) t k = ent s.V t k := ent_congr hk fun a ha => out_tables h.g h.r b hy ht ha
    rw [e] at he ⊢
    exact h.ab t i k ht hk he
  refine ⟨ys, hy, g', ?_, fun hV => inS_eq hV hl fun i hi => outV_get (fun i j hi hj e => adrs_inj h.g.wf h.r hn hy hi hj e) b.size (Nat.le_of_eq hl.symm) i (by omega) hi⟩
  rw [← hy]
  exact adrs_eq (fun a => tb_eq (s := s) (s' := ⟨s.Fr, outV s.V ys b b.size⟩) h.g.wf g'.wf h.r h.ab ab' (.inr rfl) (.inl rfl)) b.size
theorem wr_no {s : PS} {R : Roles} (h : WrS s R) (at_ n : Nat) (hm : mayB (okB 60 R 0) at_ n = false) : adrs s.V 60 0 at_ 2 n = none ∧ adrs s.V 60 0 at_ 1 n = none := by
  obtain ⟨i, hi, e⟩ := mayB_not _ _ _ hm
  exact ⟨adrs_no h.g.wf h.r hi e, adrs_no h.g.wf h.r hi e⟩
end Go.Proofs.Ytodjmfmenfncdaa
