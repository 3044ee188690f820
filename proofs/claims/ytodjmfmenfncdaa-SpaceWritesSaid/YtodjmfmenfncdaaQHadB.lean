/-
  A row of bools; a pool beside other blocks.
-/
import Derived.Test.YtodjmfmenfncdaaG12
namespace Go.Proofs.Ytodjmfmenfncdaa
open Go.RowKit

theorem Pl.box {S : Nat → Prop} {w w' : World} {q p F first : Nat} {Fr : Nat → Bool} {V : Nat → Nat} (h : Pl S w q p F first Fr V) (c : Chg (fun _ => False) w w') (hn : w.heap.size < w'.heap.size) : Pl (fun k => S k ∨ k = w.heap.size) w' q p F first Fr V := by
  obtain ⟨b, o, t, ht, hp, hB, hS⟩ := h
  have l0 := hp.lt
  refine ⟨b, o, t, ht, hp.chg c (fun _ _ h => h), fun k a b => ?_, fun k a => ?_⟩
  · rcases b with b | b
    · exact hB k a b
    · have := l0 k a; omega
  · rcases a with a | a
    · have := hS k a; omega
    · omega
/-- what changes among the blocks of S only -/
theorem Pl.nothing' {S S' : Nat → Prop} {w w' : World} {q p F first : Nat} {Fr : Nat → Bool} {V : Nat → Nat} (h : Pl S w q p F first Fr V) (c : Chg S' w w') (hs : ∀ k, S' k → S k) : Pl S w' q p F first Fr V := by
  obtain ⟨b, o, t, ht, hp, hB, hS⟩ := h
  exact ⟨b, o, t, ht, hp.chg c (fun k a b => hB k a (hs k b)), hB, fun k h => Nat.lt_of_lt_of_le (hS k h) c.size⟩
abbrev BoT : TypeId := 4
theorem Try.infoBo : (Try.prog.info? 4).map (fun i => (i.zero, i.size, i.bytes)) = some (some (.bool false), 1, 1) := by kernel_rfl
def falses (n : Nat) : Array Value := madeCells #[.bool false] n
theorem falses_get (n i : Nat) (h : i < n) : (falses n)[i]? = some (.bool false) := by
  unfold falses madeCells
  simp [h, Nat.mod_one]
theorem make_bools (W : World) (n : Nat) (hn : n ≤ 16777216) : (Instr.makeSlice 134 (.int .i64 (n : Int)) (.int .i64 (n : Int))).run Try.prog W = .ok (.slice (some ⟨W.heap.size, 0, none⟩) n n) (W.alloc (.cells (falses n) BoT)) := by
  obtain ⟨i0, hi, hz0, hz1, hz2⟩ := info_parts Try.infoBo
  have h := run_make (P := Try.prog) W 134 BoT i0 (.bool false) Try.underlying134 hi hz0 .i64 .i64 (n : Int) (n : Int) (by omega) (Int.le_refl _) (by rw [hz2]; omega) (by omega)
  rw [hz1, Nat.mul_one] at h
  exact h

/-- the row of bools: which frames were taken -/
def Had (w : World) (hd n : Nat) (f : Nat → Bool) : Prop := ∃ cs : Array Value, Blk w hd cs BoT ∧ cs.size = n ∧ ∀ i, i < n → cs[i]? = some (.bool (f i))
theorem Had.set {w : World} {hd n i : Nat} {f : Nat → Bool} (h : Had w hd n f) (hi : i < n) (v : Bool) : Had (w.setCell ⟨hd, i, none⟩ (.bool v)) hd n (setF f i v) := by
  obtain ⟨cs, hb, hs, hv⟩ := h
  refine ⟨_, hb.set i _, by simpa using hs, fun j hj => ?_⟩
  unfold setF
  by_cases e : j = i
  · subst e; rw [if_pos rfl]; simp [hs, hj]
  · rw [if_neg e, Array.getElem?_setIfInBounds_ne (by omega)]; exact hv j hj
theorem Had.chg {S : Nat → Prop} {w w' : World} {hd n : Nat} {f : Nat → Bool} (h : Had w hd n f) (c : Chg S w w') (hn : ¬ S hd) : Had w' hd n f := by
  obtain ⟨cs, hb, r⟩ := h
  exact ⟨cs, c.blk hb hn, r⟩
theorem Had.congr {w : World} {hd n : Nat} {f f' : Nat → Bool} (h : Had w hd n f) (e : ∀ i, i < n → f i = f' i) : Had w hd n f' := by
  obtain ⟨cs, hb, hs, hv⟩ := h
  exact ⟨cs, hb, hs, fun i hi => by rw [← e i hi]; exact hv i hi⟩
theorem Had.cell {w : World} {hd n : Nat} {f : Nat → Bool} (h : Had w hd n f) (i : Nat) (hi : i < n) : w.cell? ⟨hd, i, none⟩ = some (.bool (f i)) := by
  obtain ⟨cs, hb, _, hv⟩ := h
  exact hb.cellv i _ (hv i hi)
theorem Had.free {w : World} {hd n : Nat} {f : Nat → Bool} (h : Had w hd n f) (i : Nat) : w.frozen? ⟨hd, i, none⟩ = false := by
  obtain ⟨cs, hb, _⟩ := h
  exact hb.free i

end Go.Proofs.Ytodjmfmenfncdaa
