/-
  Several texts in one: SpCopy2, SpCopy3.
-/
import Derived.Test.YtijooajhjcfneaaGreatG10
namespace Go.Proofs.YtijooajhjcfneaaGreat
open Go.RowKit

theorem ps_eta (s : PS) : s = ⟨s.Fr, s.V⟩ := by cases s; rfl
theorem cpStep_page (F to : Nat) (s : PS) (v : Int × Nat) (i : Nat) (h : v.1 = (i : Int)) : cpS F to s i (v.2 % 32) (v.2 / 1024) = cpStep F to s v := by
  unfold cpStep
  have h2 : v.1.toNat = i := by rw [h]; exact Int.toNat_natCast i
  have h3 : ¬ v.1 < 0 := by rw [h]; omega
  rw [if_neg h3, h2]
theorem cpStep_neg (F to : Nat) (s : PS) (v : Int × Nat) (h : v.1 < 0) : cpStep F to s v = s := by unfold cpStep; rw [if_pos h]
structure CopyJ (q p F : Nat) (s0 : PS) (R0 : Roles) (root to c1 c2 : Nat) (S : Nat → Prop) (pre : List (Int × Nat)) (w : World) (s : PS) (R : Roles) : Prop where
  ci : CI F s0 R0 root to pre s R
  eq : s = cpAll F to s0 pre
  pl : Pl (fun k => S k ∨ k = c1 ∨ k = c2) w q p F 0 s.Fr s.V
  cell1 : w.cell? ⟨c1, 0, none⟩ = some (.pointer (some ⟨q, 0, none⟩))
  cell2 : w.cell? ⟨c2, 0, none⟩ = some (.int .i64 to)
def CopyI (q p F : Nat) (s0 : PS) (R0 : Roles) (root to c1 c2 : Nat) (S : Nat → Prop) (pre : List (Int × Nat)) (w : World) : Prop := ∃ s R, CopyJ q p F s0 R0 root to c1 c2 S pre w s R
/-- a space is begun beside another one -/
theorem new_full {F : Nat} {s : PS} {R : Roles} (h : WFS F s R) (hu : Full R) (hc : 0 < s.left F) : Full (setR R (s.top F) (s.top F, 3, 0)) := by
  obtain ⟨_, hn, _, _⟩ := new_grow h hc
  intro f r l i hf hl
  unfold setR at hf
  by_cases e : f = s.top F
  · rw [if_pos e] at hf
    cases hf
    omega
  · rw [if_neg e] at hf
    obtain ⟨g, p, h1, h2⟩ := hu f r l i hf hl
    refine ⟨g, p, ?_, h2⟩
    rw [setR_other R _ (by intro e'; rw [e', hn] at h1; cases h1)]
    exact h1
theorem copy_begin {F : Nat} {s : PS} {R : Roles} {root : Nat} (h : WFS F s R) (hu : Full R) (hr : R root = some (root, 3, 0)) (hc : cntN (hasB F R root) ≤ s.left F) (h0 : 0 < s.left F) : CB F (s.take F) (setR R (s.top F) (s.top F, 3, 0)) root (s.top F) := by
  obtain ⟨g, hn, hno, hh⟩ := new_grow h h0
  have hl := PS.left_take h0
  have hne : root ≠ s.top F := by intro e; rw [← e, hr] at hn; cases hn
  have hflt : s.top F < F := lst_lt h0
  have hoth : hasB F (setR R (s.top F) (s.top F, 3, 0)) root = hasB F R root := hasB_set_other h.lt hflt hn _ root 3 0 hne
  have hone : cntN (hasB F (setR R (s.top F) (s.top F, 3, 0)) (s.top F)) = cntN (hasB F R (s.top F)) + 1 := (congrArg cntN hh).trans (cntN_set _ 3 0 (hno 3 0) (by omega) (by omega) (by omega) (by omega) (by omega))
  have hz : hasB F R (s.top F) = fun _ _ => false := by funext l i; exact hno l i
  rw [hz, cntN_none] at hone
  refine ⟨g.wf, new_full h hu h0, ?_, setR_same _ _ _, hne, fun i => ?_, ?_, hone⟩
  · rw [setR_other R _ hne]; exact hr
  · rw [congrFun (congrFun hh 0) i]
    unfold setP
    rw [if_neg (by omega), hno]
  · rw [hoth]
    omega
/-- what Copy answers, and what is behind it -/
def copyS (F : Nat) (s : PS) (root : Nat) : PS × Nat × Int :=
  if s.left F < (visT s.V 2 root 0 32).length + 1 then (s, 0, 4) else (cpAll F (s.top F) (s.take F) (visT (s.take F).V 2 root 0 32), s.top F, 0)
end Go.Proofs.YtijooajhjcfneaaGreat

namespace Go.Proofs.YtijooajhjcfneaaGreat
open Go.RowKit

theorem cp_all_of {F : Nat} (hF : F ≤ 256) {s0 : PS} {R0 : Roles} {root to : Nat} (b : CB F s0 R0 root to) : ∀ (post pre : List (Int × Nat)) (s : PS) (R : Roles), visT s0.V 2 root 0 32 = pre ++ post → s = cpAll F to s0 pre → CI F s0 R0 root to pre s R → ∃ R', CI F s0 R0 root to (visT s0.V 2 root 0 32) (cpAll F to s0 (visT s0.V 2 root 0 32)) R'
  | [], pre, s, R, h, e, c => by
    rw [List.append_nil] at h
    rw [h]
    subst e
    exact ⟨R, c⟩
  | v :: post, pre, s, R, h, e, c => by
    obtain ⟨⟨R', c'⟩, _⟩ := cp_step hF b c h
    refine cp_all_of hF b post (pre ++ [v]) _ R' (by rw [h, List.append_assoc]; rfl) ?_ c'
    rw [cpAll_next, ← e]
theorem cp_all {F : Nat} (hF : F ≤ 256) {s0 : PS} {R0 : Roles} {root to : Nat} (b : CB F s0 R0 root to) : ∃ R', CI F s0 R0 root to (visT s0.V 2 root 0 32) (cpAll F to s0 (visT s0.V 2 root 0 32)) R' :=
  cp_all_of hF b _ [] s0 R0 (List.nil_append _).symm rfl b.start

end Go.Proofs.YtijooajhjcfneaaGreat
