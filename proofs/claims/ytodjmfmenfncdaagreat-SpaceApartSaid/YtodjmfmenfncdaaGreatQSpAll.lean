/-
  All bytes of a space, in plain numbers: they hang on its own frames alone; the frames of a space, each once.
-/
import Derived.Test.YtodjmfmenfncdaaGreatG22
namespace Go.Proofs.YtodjmfmenfncdaaGreat
open Go.RowKit

/-- the bytes of a page that may be read, or none -/
def allP (V : Nat → Nat) (F root : Nat) (n : Int) : List UInt8 := match adrs V F root (n.toNat * 256) 1 256 with
  | none => []
  | some xs => inS V xs
def allL (V : Nat → Nat) (F root : Nat) (l : List Int) : List UInt8 := l.flatMap (allP V F root)
theorem allL_next (V : Nat → Nat) (F root : Nat) (l : List Int) (n : Int) : allL V F root (l ++ [n]) = allL V F root l ++ allP V F root n := by
  unfold allL
  rw [List.flatMap_append]
  simp
theorem allP_len (V : Nat → Nat) (F root : Nat) (n : Int) : (allP V F root n).length ≤ 256 := by
  unfold allP
  cases h : adrs V F root (n.toNat * 256) 1 256 with
  | none => exact Nat.zero_le _
  | some xs =>
    show (inS V xs).length ≤ 256
    rw [inS_len, adrs_len 256 xs h]
    exact Nat.le_refl _
theorem allL_len (V : Nat → Nat) (F root : Nat) : ∀ l : List Int, (allL V F root l).length ≤ l.length * 256
  | [] => Nat.le_refl _
  | n :: l => by
    have h1 := allP_len V F root n
    have h2 := allL_len V F root l
    show (allP V F root n ++ allL V F root l).length ≤ _
    rw [List.length_append, List.length_cons]
    omega
theorem inS_same {V V' : Nat → Nat} : ∀ xs : List Nat, (∀ x ∈ xs, V' x = V x) → inS V' xs = inS V xs
  | [], _ => rfl
  | x :: xs, h => by
    have e : ∀ U, inS U (x :: xs) = (memStr U x 1).data.toList ++ inS U xs := fun U => by unfold inS; rw [List.flatMap_cons]
    rw [e, e, inS_same xs (fun y hy => h y (List.mem_cons_of_mem _ hy)), memStr_congr (V := V') (V' := V) (a := x) (a' := x) (n := 1) (fun i hi => by rw [show i = 0 from by omega]; exact h x (List.mem_cons_self ..))]
/-- all that a space shows hangs on its own frames -/
theorem all_same {F : Nat} {s : PS} {R : Roles} {V' : Nat → Nat} (h : WFS F s R) {root : Nat} (hr : R root = some (root, 3, 0)) (hv : ∀ a l i, R (a / 256) = some (root, l, i) → V' a = s.V a) : allL V' F root (pagesL V' root) = allL s.V F root (pagesL s.V root) := by
  have hv2 : ∀ t l i k, R t = some (root, l + 1, i) → k < 32 → ent V' t k = ent s.V t k := fun t l i k ht hk => ent_congr hk fun a ha => hv a (l + 1) i (by rw [ha]; exact ht)
  have e : pagesL V' root = pagesL s.V root := by unfold pagesL; rw [visT_same h hr hv2]
  rw [e]
  have ep : allP V' F root = allP s.V F root := by
    funext n
    unfold allP
    rw [adrs_eq (fun a => tbAt_same h hr hv2 a 1) 256]
    cases hx : adrs s.V F root (n.toNat * 256) 1 256 with
    | none => rfl
    | some xs =>
      show inS V' xs = inS s.V xs
      refine inS_same xs fun x hxm => ?_
      obtain ⟨i, hi⟩ := adrs_role h hr 256 xs hx x hxm
      exact hv x 0 i hi
  unfold allL
  rw [ep]
/-- what is put into one space is seen in no other one -/
theorem all_out {F : Nat} {s : PS} {R : Roles} (h : WFS F s R) {root rw at_ n : Nat} {ys : List Nat} (b : ByteArray) (hrw : R rw = some (rw, 3, 0)) (hr : R root = some (root, 3, 0)) (hne : root ≠ rw) (hy : adrs s.V F rw at_ 2 n = some ys) : allL (outV s.V ys b n) F root (pagesL (outV s.V ys b n) root) = allL s.V F root (pagesL s.V root) := by
  refine all_same h hr fun a l i ha => ?_
  refine outV_same n (by rw [adrs_len n ys hy]; exact Nat.le_refl _) fun hm => ?_
  obtain ⟨i', hi'⟩ := adrs_role h hrw n ys hy a hm
  rw [ha] at hi'
  exact hne (congrArg (fun x : Nat × Nat × Nat => x.1) (Option.some.inj hi'))
/-- the frames of a space: its tables, its root, its pages -/
def fsR (V : Nat → Nat) (root : Nat) : List Nat := tabT V 2 root 0 32 ++ [root] ++ frs (pgV (visT V 2 root 0 32))
theorem fsR_ok {F : Nat} {s : PS} {R : Roles} (h : WFS F s R) {root : Nat} (hr : R root = some (root, 3, 0)) : (fsR s.V root).Nodup ∧ ∀ f ∈ fsR s.V root, ∃ l i, R f = some (root, l, i) := by
  have hp : (fsR s.V root).Perm (docD s.V root ++ [root]) := by
    unfold fsR docD
    refine (List.perm_append_comm).trans ?_
    rw [List.append_assoc]
  have hg := docD_ok h hr
  refine ⟨hp.nodup_iff.2 hg.nodup, fun f hf => ?_⟩
  have hm := hp.mem_iff.1 hf
  have hm2 : f ∈ frs (visT s.V 2 root 0 32) ∨ f = root := by
    rcases List.mem_append.1 hm with hm | hm
    · exact .inl ((docD_perm s.V root).mem_iff.1 hm)
    · exact .inr (List.mem_singleton.1 hm)
  exact ownR_iff.1 ((vis_own h hr f).1 hm2)
/-- the frames of the first roots -/
def fsN (V : Nat → Nat) : List Nat → List Nat
  | [] => []
  | r :: l => fsR V r ++ fsN V l
theorem fsN_mem {F : Nat} {s : PS} {R : Roles} (h : WFS F s R) : ∀ (l : List Nat), (∀ n ∈ l, R n = some (n, 3, 0)) → ∀ f, f ∈ fsN s.V l → ∃ r ∈ l, ∃ k i, R f = some (r, k, i)
  | [], _, f, hf => by cases hf
  | r :: l, hl, f, hf => by
    rcases List.mem_append.1 hf with hf | hf
    · obtain ⟨k, i, e⟩ := (fsR_ok h (hl r (List.mem_cons_self ..))).2 f hf
      exact ⟨r, List.mem_cons_self .., k, i, e⟩
    · obtain ⟨r', hr', k, i, e⟩ := fsN_mem h l (fun n hn => hl n (List.mem_cons_of_mem _ hn)) f hf
      exact ⟨r', List.mem_cons_of_mem _ hr', k, i, e⟩
theorem fsN_append (V : Nat → Nat) : ∀ (a b : List Nat), fsN V (a ++ b) = fsN V a ++ fsN V b
  | [], _ => rfl
  | r :: a, b => by
    show fsR V r ++ fsN V (a ++ b) = fsR V r ++ fsN V a ++ fsN V b
    rw [fsN_append V a b, List.append_assoc]
/-- no frame twice: the k-th root's j-th frame is new -/
theorem fs_new {F : Nat} {s : PS} {R : Roles} (h : WFS F s R) {rts : List Nat} (ok : RtsOk R rts) {k j : Nat} (hk : k < rts.length) (hj : j < (fsR s.V rts[k]).length) : (fsR s.V rts[k])[j] ∉ fsN s.V (rts.take k) ++ (fsR s.V rts[k]).take j := by
  have hr := ok.is _ (List.getElem_mem hk)
  obtain ⟨hn, hm⟩ := fsR_ok h hr
  intro hin
  rcases List.mem_append.1 hin with hin | hin
  · obtain ⟨r, hrm, l, i, e⟩ := fsN_mem h (rts.take k) (fun n hn => ok.is n (List.mem_of_mem_take hn)) _ hin
    obtain ⟨l', i', e'⟩ := hm _ (List.getElem_mem hj)
    rw [e] at e'
    have hrr : r = rts[k] := congrArg (fun x : Nat × Nat × Nat => x.1) (Option.some.inj e')
    obtain ⟨m, hmk, hme⟩ := List.mem_iff_getElem.1 hrm
    rw [List.getElem_take, hrr] at hme
    have := nodup_inj ok.nodup _ _ hme
    rw [List.length_take] at hmk
    omega
  · obtain ⟨m, hmk, hme⟩ := List.mem_iff_getElem.1 hin
    rw [List.getElem_take] at hme
    have := nodup_inj hn _ _ hme
    rw [List.length_take] at hmk
    omega
theorem fs_lt {F : Nat} {s : PS} {R : Roles} (h : WFS F s R) {root : Nat} (hr : R root = some (root, 3, 0)) : ∀ f ∈ fsR s.V root, f < F := fun f hf => by
  obtain ⟨l, i, e⟩ := (fsR_ok h hr).2 f hf
  exact h.lt _ _ e
end Go.Proofs.YtodjmfmenfncdaaGreat
