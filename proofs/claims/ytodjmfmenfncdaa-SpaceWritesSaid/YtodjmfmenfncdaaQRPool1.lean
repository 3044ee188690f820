/-
  The document's pool of frames by its contracts.
-/
import Derived.Test.YtodjmfmenfncdaaQHadB
import Derived.Test.YtodjmfmenfncdaaG12
namespace Go.Proofs.Ytodjmfmenfncdaa
open Go.RowKit

abbrev RpT : TypeId := 136
structure RPool (w : World) (rq hd r g F first : Nat) (Is : Nat → Bool) (V : Nat → Nat) (t : Nat) : Prop where
  mem : RM w r g F V t
  blk : Blk w rq #[.pointer (some ⟨r, 0, none⟩), .int .i64 first, .slice (some ⟨hd, 0, none⟩) F F] RpT
  had : Had w hd F Is
  a1 : rq ≠ hd
  a2 : rq ≠ r
  a3 : rq ≠ g
  a4 : hd ≠ r
  a5 : hd ≠ g
  le : first ≤ F
def RpOwn (rq hd r g : Nat) (k : Nat) : Prop := k = rq ∨ k = hd ∨ k = r ∨ k = g
def RpK (w : World) (rq hd r g F first : Nat) (Is : Nat → Bool) (V : Nat → Nat) (t : Nat) (v : Value) (e : Ending) (w' : World) : Prop := e = .returned v ∧ RPool w' rq hd r g F first Is V t ∧ Chg (RpOwn rq hd r g) w w'
theorem Had.lt {w : World} {hd n : Nat} {f : Nat → Bool} (h : Had w hd n f) : hd < w.heap.size := by
  obtain ⟨cs, hb, _⟩ := h
  exact hb.lt
theorem RPool.chg {S : Nat → Prop} {w w' : World} {rq hd r g F first t : Nat} {Is : Nat → Bool} {V : Nat → Nat} (h : RPool w rq hd r g F first Is V t) (c : Chg S w w') (hn : ∀ k, RpOwn rq hd r g k → ¬ S k) : RPool w' rq hd r g F first Is V t :=
  ⟨h.mem.chg c (hn _ (.inr (.inr (.inl rfl)))) (hn _ (.inr (.inr (.inr rfl)))), c.blk h.blk (hn _ (.inl rfl)), h.had.chg c (hn _ (.inr (.inl rfl))), h.a1, h.a2, h.a3, h.a4, h.a5, h.le⟩
theorem RPool.lt {w : World} {rq hd r g F first t : Nat} {Is : Nat → Bool} {V : Nat → Nat} (h : RPool w rq hd r g F first Is V t) : ∀ k, RpOwn rq hd r g k → k < w.heap.size := by
  rintro k (rfl | rfl | rfl | rfl)
  · exact h.blk.lt
  · exact h.had.lt
  · exact h.mem.blk.lt
  · exact h.mem.row.lt
/-- behind what is done to its memory -/
theorem RPool.worked {w w' : World} {rq hd r g F first t t' : Nat} {Is : Nat → Bool} {V V' : Nat → Nat} {v : Value} {e : Ending} (h : RPool w rq hd r g F first Is V t) (k : RmK w r g F t' V' v e w') : RpK w rq hd r g F first Is V' t' v e w' := by
  obtain ⟨he, hm, hc⟩ := k
  have h1 := h.a2; have h2 := h.a3; have h3 := h.a4; have h4 := h.a5
  exact ⟨he, ⟨hm, hc.blk h.blk (by omega), h.had.chg hc (by omega), h.a1, h.a2, h.a3, h.a4, h.a5, h.le⟩, hc.mono (fun k a => by unfold RpOwn; omega)⟩
/-- behind a bool's turn -/
theorem RPool.set {w : World} {rq hd r g F first t i : Nat} {Is : Nat → Bool} {V : Nat → Nat} (h : RPool w rq hd r g F first Is V t) (hi : i < F) (v : Bool) :
    RPool (w.setCell ⟨hd, i, none⟩ (.bool v)) rq hd r g F first (setF Is i v) V t ∧ Chg (RpOwn rq hd r g) w (w.setCell ⟨hd, i, none⟩ (.bool v)) := by
  have c : Chg (fun k => k = hd) w (w.setCell ⟨hd, i, none⟩ (.bool v)) := (Chg.refl _ _).setCell _ _ (.inl rfl)
  have h1 := h.a1; have h3 := h.a4; have h4 := h.a5
  exact ⟨⟨h.mem.chg c (by omega) (by omega), c.blk h.blk (by omega), h.had.set hi v, h.a1, h.a2, h.a3, h.a4, h.a5, h.le⟩, c.mono (fun k a => .inr (.inl a))⟩
theorem RpK.after {w w1 w2 : World} {rq hd r g F first t : Nat} {Is : Nat → Bool} {V : Nat → Nat} {v : Value} {e : Ending} (c : Chg (RpOwn rq hd r g) w w1) (k : RpK w1 rq hd r g F first Is V t v e w2) : RpK w rq hd r g F first Is V t v e w2 := ⟨k.1, k.2.1, c.trans k.2.2⟩

end Go.Proofs.Ytodjmfmenfncdaa
