/-
  Several texts in one: SpCopy2, SpCopy3, SpBuild, SpBuild2, SpIn, SpIn2.
-/
import Derived.Test.YtodjmfmenfncdaaGreatG10
import Derived.Test.YtodjmfmenfncdaaGreatShelf
import Derived.Lib.AppendStr
import Derived.Lib.UnsafeStr
namespace Go.Proofs.YtodjmfmenfncdaaGreat
open Go.RowKit

theorem ps_eta (s : PS) : s = ⟨s.Fr, s.V⟩ := by cases s; rfl
theorem cpStep_page (F to : Nat) (s : PS) (v : Int × Nat) (i : Nat) (h : v.1 = (i : Int)) : cpS F to s i (v.2 % 32) (v.2 / 1024) = cpStep F to s v := by
  unfold cpStep
  have h2 : v.1.toNat = i := by rw [h]; exact Int.toNat_natCast i
  have h3 : ¬ v.1 < 0 := by rw [h]; omega
  rw [if_neg h3, h2]
theorem cpStep_neg (F to : Nat) (s : PS) (v : Int × Nat) (h : v.1 < 0) : cpStep F to s v = s := by unfold cpStep; rw [if_pos h]
theorem sp_copy2_neg {w : World} {c1 c2 : Nat} (x : Int) (e : Nat) (hx : x < 0) :
    Calls Tryz.prog 53 #[.int .i64 x, .int .u64 (e : Nat), .pointer (some ⟨c1, 0, none⟩), .pointer (some ⟨c2, 0, none⟩)] w fun r w' => r = .returned (.tuple #[]) ∧ w = w' := by
  have d0 : decide (x < (0 : Int)) = true := decide_eq_true hx
  go_enter Tryz.func53, Tryz.ntmps53
  go_wp2_with fail
  refine bodyPost_ret (results_none rfl _ _ _) rfl ?_
  exact ⟨rfl, rfl⟩

structure CopyJ (q p F : Nat) (s0 : PS) (R0 : Roles) (root to c1 c2 : Nat) (S : Nat → Prop) (pre : List (Int × Nat)) (w : World) (s : PS) (R : Roles) : Prop where
  ci : CI F s0 R0 root to pre s R
  eq : s = cpAll F to s0 pre
  pl : Pl (fun k => S k ∨ k = c1 ∨ k = c2) w q p F 0 s.Fr s.V
  cell1 : w.cell? ⟨c1, 0, none⟩ = some (.pointer (some ⟨q, 0, none⟩))
  cell2 : w.cell? ⟨c2, 0, none⟩ = some (.int .i64 to)
def CopyI (q p F : Nat) (s0 : PS) (R0 : Roles) (root to c1 c2 : Nat) (S : Nat → Prop) (pre : List (Int × Nat)) (w : World) : Prop := ∃ s R, CopyJ q p F s0 R0 root to c1 c2 S pre w s R
theorem copy_each {q p F c1 c2 root to : Nat} {s0 : PS} {R0 : Roles} (hF : F ≤ 256) (b : CB F s0 R0 root to) :
    Each2.EachI s0.V R0 q p F root 53 c1 c2 (visT s0.V 2 root 0 32) (CopyI q p F s0 R0 root to c1 c2) := by
  refine ⟨fun S pre w h => ?_, fun S S' pre w w' h c hs hlt => ?_, fun S pre v post w hall h => ?_, (vis_nodup b.wf b.hroot).1, fun a b w => by go_simp, fun S pre w h k hk => ?_⟩
  · obtain ⟨s, R, h⟩ := h
    refine ⟨_, _, _, fun k hk => .inl hk, h.pl, fun t l i k ht hn hk => ent_congr hk fun a ha => h.ci.grow.keep t root (l + 1) i b.ne ht a ha, fun w' hp c => ⟨s, R, h.ci, h.eq, hp, ?_, ?_⟩⟩
    · exact (c.cell (World.block_lt_of_cell? _ _ h.cell1) (fun a => a (.inr (.inl rfl)))).trans h.cell1
    · exact (c.cell (World.block_lt_of_cell? _ _ h.cell2) (fun a => a (.inr (.inr rfl)))).trans h.cell2
  · obtain ⟨s, R, h⟩ := h
    have hl1 := World.block_lt_of_cell? _ _ h.cell1
    have hl2 := World.block_lt_of_cell? _ _ h.cell2
    refine ⟨s, R, h.ci, h.eq, h.pl.beside c (fun _ h => h.elim) (fun k hk => ?_) (fun k hk => ?_), (c.cell hl1 (fun a => a)).trans h.cell1, (c.cell hl2 (fun a => a)).trans h.cell2⟩
    · rcases hk with hk | hk
      · exact (hs k hk).imp .inl id
      · exact .inl (.inr hk)
    · rcases hk with hk | rfl | rfl
      · exact hlt k hk
      · exact Nat.lt_of_lt_of_le hl1 c.size
      · exact Nat.lt_of_lt_of_le hl2 c.size
  · obtain ⟨s, R, h⟩ := h
    obtain ⟨⟨R', c'⟩, hv⟩ := cp_step hF b h.ci hall
    have heq : cpStep F to s v = cpAll F to s0 (pre ++ [v]) := by rw [cpAll_next, ← h.eq]
    rcases hv with hneg | ⟨i, e, hf, cv⟩
    · rw [cpStep_neg F to s v hneg] at c' heq
      exact (sp_copy2_neg v.1 v.2 hneg).mono fun e w' ⟨h1, h2⟩ => by subst h2; exact ⟨h1, ⟨s, R', c', heq, h.pl, h.cell1, h.cell2⟩, Chg.refl _ _⟩
    · have hvm : v ∈ visT s0.V 2 root 0 32 := by rw [hall]; simp
      obtain ⟨he, _, _⟩ := vis_frame b.wf b.hroot hvm
      rw [e]
      have k := sp_copy2 (c1 := c1) (c2 := c2) h.pl hF h.ci.grow.wf (h.ci.grow.sub _ _ b.hto) (.inr (.inl rfl)) (.inr (.inr rfl)) h.cell1 h.cell2 i v.2 _ _ he rfl rfl hf cv ((cpStep_page F to s v i e).trans (ps_eta _))
      generalize cpStep F to s v = s' at *
      refine k.mono fun r w' ⟨k1, k2, k3⟩ => ⟨k1, ⟨s', R', c', heq, k2, ?_, ?_⟩, k3.mono (fun k a b => a (.inl b))⟩
      · exact (k3.cell (World.block_lt_of_cell? _ _ h.cell1) (fun a => a (.inr (.inl rfl)))).trans h.cell1
      · exact (k3.cell (World.block_lt_of_cell? _ _ h.cell2) (fun a => a (.inr (.inr rfl)))).trans h.cell2
  · obtain ⟨s, R, h⟩ := h
    exact h.pl.lt k (.inl hk)

/-- a space is begun beside another one -/
theorem new_full {F : Nat} {s : PS} {R : Roles} (h : WFS F s R) (hu : Full R) (hc : 0 < s.left F) : Full (setR R (s.top F) (s.top F, 3, 0)) := by
  obtain ⟨_, hn, _, _⟩ := new_grow h hc
  intro f r l i hf hl
  unfold setR at hf
  by_cases e : f = s.top F
  · rw [if_pos e] at hf
    cases hf
    omega
  · rw [if_neg e] at hf
    obtain ⟨g, p, h1, h2⟩ := hu f r l i hf hl
    refine ⟨g, p, ?_, h2⟩
    rw [setR_other R _ (by intro e'; rw [e', hn] at h1; cases h1)]
    exact h1
theorem copy_begin {F : Nat} {s : PS} {R : Roles} {root : Nat} (h : WFS F s R) (hu : Full R) (hr : R root = some (root, 3, 0)) (hc : cntN (hasB F R root) ≤ s.left F) (h0 : 0 < s.left F) : CB F (s.take F) (setR R (s.top F) (s.top F, 3, 0)) root (s.top F) := by
  obtain ⟨g, hn, hno, hh⟩ := new_grow h h0
  have hl := PS.left_take h0
  have hne : root ≠ s.top F := by intro e; rw [← e, hr] at hn; cases hn
  have hflt : s.top F < F := lst_lt h0
  have hoth : hasB F (setR R (s.top F) (s.top F, 3, 0)) root = hasB F R root := hasB_set_other h.lt hflt hn _ root 3 0 hne
  have hone : cntN (hasB F (setR R (s.top F) (s.top F, 3, 0)) (s.top F)) = cntN (hasB F R (s.top F)) + 1 := (congrArg cntN hh).trans (cntN_set _ 3 0 (hno 3 0) (by omega) (by omega) (by omega) (by omega) (by omega))
  have hz : hasB F R (s.top F) = fun _ _ => false := by funext l i; exact hno l i
  rw [hz, cntN_none] at hone
  refine ⟨g.wf, new_full h hu h0, ?_, setR_same _ _ _, hne, fun i => ?_, ?_, hone⟩
  · rw [setR_other R _ hne]; exact hr
  · rw [congrFun (congrFun hh 0) i]
    unfold setP
    rw [if_neg (by omega), hno]
  · rw [hoth]
    omega
/-- what Copy answers, and what is behind it -/
def copyS (F : Nat) (s : PS) (root : Nat) : PS × Nat × Int :=
  if s.left F < (visT s.V 2 root 0 32).length + 1 then (s, 0, 4) else (cpAll F (s.top F) (s.take F) (visT (s.take F).V 2 root 0 32), s.top F, 0)
set_option maxRecDepth 100000 in
set_option maxHeartbeats 1600000 in
theorem sp_copy_full {S : Nat → Prop} {w : World} {q p F : Nat} {s : PS} {R : Roles} (h : Pl S w q p F 0 s.Fr s.V) (hF : F ≤ 256) (hW : WFS F s R) (root : Nat) (hr : R root = some (root, 3, 0)) (hc : s.left F < (visT s.V 2 root 0 32).length + 1) :
    Calls Tryz.prog 22 #[.pointer (some ⟨q, 0, none⟩), .int .i64 root] w (StepF S w q p F 0 s.Fr s.V (.tuple #[.int .i64 0, .int .i64 4])) := by
  have hmf : ∀ (fn : Fn) (first cap : Array Value) (w : World), (Instr.makeFunc fn first cap).run Tryz.prog w = .ok (.func fn first cap) w := fun _ _ _ _ => rfl
  have hb : Pl (fun k => S k ∨ k = w.heap.size) (w.alloc (.cells #[.pointer (some ⟨q, 0, none⟩)] 26)) q p F 0 s.Fr s.V := h.boxed ((Chg.refl _ w).alloc _) (by simp)
  have hcc : (w.alloc (.cells #[.pointer (some ⟨q, 0, none⟩)] 26)).cell? ⟨w.heap.size, 0, none⟩ = some (.pointer (some ⟨q, 0, none⟩)) := (Blk.new w _ _).cellv 0 _ rfl
  have HT := sp_taken hb hF root
  rw [hW.taken hr] at HT
  have KE := fun (S : Nat → Prop) (W : World) (c1 : Nat) (I : CountI q p F s.Fr s.V c1 S [] W) => Lib.hid (Each1.sp_each (count_each (c1 := c1) hW hr) hF hW hr rfl (vis_nodup hW hr).2 S W I)
  have KL := fun (S : Nat → Prop) (W : World) (H : Pl S W q p F 0 s.Fr s.V) => f_leftS H
  generalize visT s.V 2 root 0 32 = vis at *
  obtain ⟨n, hn⟩ : ∃ n, n = 1 + vis.length := ⟨_, rfl⟩
  obtain ⟨l, hl⟩ : ∃ l, l = s.left F := ⟨_, rfl⟩
  rw [← hl] at KL hc
  have d1 : decide ((l : Int) < (n : Int)) = true := decide_eq_true (by omega)
  have d2 : l < n := by omega
  have HC0 := Lib.hid (show Chg (fun k => ¬ S k) w (w.alloc (.cells #[.pointer (some ⟨q, 0, none⟩)] 26)) from (Chg.refl _ _).alloc _)
  have HSL := Lib.hid (show w.heap.size < (w.alloc (.cells #[.pointer (some ⟨q, 0, none⟩)] 26)).heap.size by simp)
  have HT := Lib.hid HT; have KE := Lib.hid KE; have KL := Lib.hid KL; have HB := Lib.hid hb; have HCC := Lib.hid hcc; have HN := Lib.hid hn
  clear h hb hF hW hr hc hl hn hcc
  go_enter Tryz.func22, Tryz.ntmps22
  go_wp2_with fail
  refine HT.out.mono ?_
  rintro e w1 ⟨rfl, m1, c1⟩
  have dd : w1.cell? ⟨w.heap.size, 0, none⟩ = some (.pointer (some ⟨q, 0, none⟩)) := (c1.cell HSL.out (fun a => a (.inr rfl))).trans HCC.out
  have ddx := (Chg.refl (fun _ => False) w1).alloc (.cells #[.int .i64 1] 3)
  have d3 : (w1.alloc (.cells #[.int .i64 1] 3)).cell? ⟨w.heap.size, 0, none⟩ = some (.pointer (some ⟨q, 0, none⟩)) := (ddx.cell (World.block_lt_of_cell? _ _ dd) (fun a => a)).trans dd
  have I1 := Lib.hid (show CountI q p F s.Fr s.V w1.heap.size (fun k => S k ∨ k = w.heap.size) [] (w1.alloc (.cells #[.int .i64 1] 3)) from ⟨Blk.new w1 _ _, m1.boxed ddx (by simp), fun a => by
    rcases a with a | a
    · have := m1.lt _ (.inl a); omega
    · have := m1.lt _ (.inr a); omega⟩)
  have C1 := Lib.hid (HC0.out.trans (c1.mono (fun k a b => a (.inl b)))); clear m1 c1

  go_wp2_with fail
  refine (KE.out _ _ _ I1.out).out.mono ?_
  rintro e w2 ⟨rfl, i2, c2⟩
  have d5 := i2.1.cellv 0 _ rfl
  rw [← HN.out] at d5
  have d4 : w2.cell? ⟨w.heap.size, 0, none⟩ = some (.pointer (some ⟨q, 0, none⟩)) := (c2.cell (World.block_lt_of_cell? _ _ d3) (fun a => a (.inr rfl))).trans d3
  have M2 := Lib.hid (And.intro (i2.2.1.weak (S' := S) (fun k a => .inl (.inl a))) (C1.out.trans ((ddx.mono (fun _ h => h.elim)).trans (c2.mono (fun k a b => a (.inl b)))))); clear i2 c2 ddx
  go_wp2_with fail
  go_quiet ((go_at_call 11; exact quiet_left (KL.out _ _ (M2.out.1.nothing ((Chg.refl _ _).drewN _)))))
  go_wp2_with fail
  go_ret2
  exact ⟨rfl, M2.out.1.nothing ((Chg.refl _ _).drewN _), M2.out.2.drewN _⟩
end Go.Proofs.YtodjmfmenfncdaaGreat

namespace Go.Proofs.YtodjmfmenfncdaaGreat
open Go.RowKit

theorem cp_all_of {F : Nat} (hF : F ≤ 256) {s0 : PS} {R0 : Roles} {root to : Nat} (b : CB F s0 R0 root to) : ∀ (post pre : List (Int × Nat)) (s : PS) (R : Roles), visT s0.V 2 root 0 32 = pre ++ post → s = cpAll F to s0 pre → CI F s0 R0 root to pre s R → ∃ R', CI F s0 R0 root to (visT s0.V 2 root 0 32) (cpAll F to s0 (visT s0.V 2 root 0 32)) R'
  | [], pre, s, R, h, e, c => by
    rw [List.append_nil] at h
    rw [h]
    subst e
    exact ⟨R, c⟩
  | v :: post, pre, s, R, h, e, c => by
    obtain ⟨⟨R', c'⟩, _⟩ := cp_step hF b c h
    refine cp_all_of hF b post (pre ++ [v]) _ R' (by rw [h, List.append_assoc]; rfl) ?_ c'
    rw [cpAll_next, ← e]
theorem cp_all {F : Nat} (hF : F ≤ 256) {s0 : PS} {R0 : Roles} {root to : Nat} (b : CB F s0 R0 root to) : ∃ R', CI F s0 R0 root to (visT s0.V 2 root 0 32) (cpAll F to s0 (visT s0.V 2 root 0 32)) R' :=
  cp_all_of hF b _ [] s0 R0 (List.nil_append _).symm rfl b.start

set_option maxRecDepth 100000 in
set_option maxHeartbeats 1600000 in
theorem sp_copy_yes {S : Nat → Prop} {w : World} {q p F : Nat} {s : PS} {R : Roles} (h : Pl S w q p F 0 s.Fr s.V) (hF : F ≤ 256) (hW : WFS F s R) (hu : Full R) (root : Nat) (hr : R root = some (root, 3, 0)) (hc : (visT s.V 2 root 0 32).length + 1 ≤ s.left F) {Fr' : Nat → Bool} {V' : Nat → Nat} (hT : cpAll F (s.top F) (s.take F) (visT (s.take F).V 2 root 0 32) = ⟨Fr', V'⟩) :
    Calls Tryz.prog 22 #[.pointer (some ⟨q, 0, none⟩), .int .i64 root] w (StepF S w q p F 0 Fr' V' (.tuple #[.int .i64 (s.top F : Nat), .int .i64 0])) := by
  have hmf : ∀ (fn : Fn) (first cap : Array Value) (w : World), (Instr.makeFunc fn first cap).run Tryz.prog w = .ok (.func fn first cap) w := fun _ _ _ _ => rfl
  have hb : Pl (fun k => S k ∨ k = w.heap.size) (w.alloc (.cells #[.pointer (some ⟨q, 0, none⟩)] 26)) q p F 0 s.Fr s.V := h.boxed ((Chg.refl _ w).alloc _) (by simp)
  have hcc : (w.alloc (.cells #[.pointer (some ⟨q, 0, none⟩)] 26)).cell? ⟨w.heap.size, 0, none⟩ = some (.pointer (some ⟨q, 0, none⟩)) := (Blk.new w _ _).cellv 0 _ rfl
  have HT := sp_taken hb hF root
  rw [hW.taken hr] at HT
  have h0 : 0 < s.left F := Nat.lt_of_lt_of_le (Nat.succ_pos _) hc
  have hbeg := copy_begin hW hu hr (by rw [← vis_count hW hr]; exact hc) h0
  have KE := fun (S : Nat → Prop) (W : World) (c1 : Nat) (I : CountI q p F s.Fr s.V c1 S [] W) => Lib.hid (Each1.sp_each (count_each (c1 := c1) hW hr) hF hW hr rfl (vis_nodup hW hr).2 S W I)
  have KL := fun (S : Nat → Prop) (W : World) (H : Pl S W q p F 0 s.Fr s.V) => f_leftS H
  have KN := fun (S : Nat → Prop) (W : World) (H : Pl S W q p F 0 s.Fr s.V) => sp_new H hF h0
  have KC := fun (S : Nat → Prop) (W : World) (c1 c2 : Nat) (I : CopyI q p F (s.take F) (setR R (s.top F) (s.top F, 3, 0)) root (s.top F) c1 c2 S [] W) => Lib.hid (Each2.sp_each (copy_each (c1 := c1) (c2 := c2) hF hbeg) hF hbeg.wf hbeg.hroot rfl (vis_nodup hbeg.wf hbeg.hroot).2 S W I)
  have HBEG := Lib.hid hbeg
  generalize visT s.V 2 root 0 32 = vis at *
  generalize visT (s.take F).V 2 root 0 32 = vis2 at *
  obtain ⟨n, hn⟩ : ∃ n, n = 1 + vis.length := ⟨_, rfl⟩
  obtain ⟨l, hl⟩ : ∃ l, l = s.left F := ⟨_, rfl⟩
  rw [← hl] at KL hc
  have d1 : decide ((l : Int) < (n : Int)) = false := decide_eq_false (by omega)
  have d2 : ¬ l < n := by omega
  have HC0 := Lib.hid (show Chg (fun k => ¬ S k) w (w.alloc (.cells #[.pointer (some ⟨q, 0, none⟩)] 26)) from (Chg.refl _ _).alloc _)
  have HSL := Lib.hid (show w.heap.size < (w.alloc (.cells #[.pointer (some ⟨q, 0, none⟩)] 26)).heap.size by simp)
  obtain ⟨s1, hs1⟩ : ∃ s1, s1 = s.take F := ⟨_, rfl⟩
  obtain ⟨to, hto⟩ : ∃ to, to = s.top F := ⟨_, rfl⟩
  rw [← hs1] at KN KC hT HBEG
  rw [← hto] at KN KC hT HBEG ⊢
  generalize setR R to (to, 3, 0) = R1 at *
  have HT := Lib.hid HT; have KE := Lib.hid KE; have KL := Lib.hid KL; have HB := Lib.hid hb; have HCC := Lib.hid hcc; have HN := Lib.hid hn; have KN := Lib.hid KN; have KC := Lib.hid KC; have HTT := Lib.hid hT
  clear h hb hF hW hr hc hl hn hcc hu h0 hbeg hT hs1 hto
  go_enter Tryz.func22, Tryz.ntmps22
  go_wp2_with fail
  refine HT.out.mono ?_
  rintro e w1 ⟨rfl, m1, c1⟩
  have dd : w1.cell? ⟨w.heap.size, 0, none⟩ = some (.pointer (some ⟨q, 0, none⟩)) := (c1.cell HSL.out (fun a => a (.inr rfl))).trans HCC.out
  have ddx := (Chg.refl (fun _ => False) w1).alloc (.cells #[.int .i64 1] 3)
  have d3 : (w1.alloc (.cells #[.int .i64 1] 3)).cell? ⟨w.heap.size, 0, none⟩ = some (.pointer (some ⟨q, 0, none⟩)) := (ddx.cell (World.block_lt_of_cell? _ _ dd) (fun a => a)).trans dd
  have I1 := Lib.hid (show CountI q p F s.Fr s.V w1.heap.size (fun k => S k ∨ k = w.heap.size) [] (w1.alloc (.cells #[.int .i64 1] 3)) from ⟨Blk.new w1 _ _, m1.boxed ddx (by simp), fun a => by
    rcases a with a | a
    · have := m1.lt _ (.inl a); omega
    · have := m1.lt _ (.inr a); omega⟩)
  have C1 := Lib.hid (HC0.out.trans (c1.mono (fun k a b => a (.inl b)))); clear m1 c1
  go_wp2_with fail
  refine (KE.out _ _ _ I1.out).out.mono ?_
  rintro e w2 ⟨rfl, i2, c2⟩
  have d5 := i2.1.cellv 0 _ rfl
  rw [← HN.out] at d5
  have d4 : w2.cell? ⟨w.heap.size, 0, none⟩ = some (.pointer (some ⟨q, 0, none⟩)) := (c2.cell (World.block_lt_of_cell? _ _ d3) (fun a => a (.inr rfl))).trans d3
  have M2 := Lib.hid (And.intro (i2.2.1.weak (S' := fun k => S k ∨ k = w.heap.size) (fun k a => .inl a)) (C1.out.trans ((ddx.mono (fun _ h => h.elim)).trans (c2.mono (fun k a b => a (.inl b)))))); clear i2 c2 ddx
  go_wp2_with fail
  go_quiet ((go_at_call 11; exact quiet_left (KL.out _ _ (M2.out.1.nothing ((Chg.refl _ _).drewN _)))))
  have d6 := d4
  generalize hw3 : w2.drewN _ = w3
  have hd3 : Chg (fun _ => False) w2 w3 := hw3 ▸ (Chg.refl _ _).drewN _
  have d6 : w3.cell? ⟨w.heap.size, 0, none⟩ = some (.pointer (some ⟨q, 0, none⟩)) := (hd3.cell (World.block_lt_of_cell? _ _ d4) (fun a => a)).trans d4
  have M3 := Lib.hid (And.intro (M2.out.1.nothing hd3) (M2.out.2.trans (hd3.mono (fun _ h => h.elim))))
  clear hw3 hd3 d5 d4 d3 dd M2
  go_wp2_with fail
  refine (KN.out _ _ M3.out.1).mono ?_
  rintro e w4 ⟨rfl, m4, c4⟩
  have d7 : w4.cell? ⟨w.heap.size, 0, none⟩ = some (.pointer (some ⟨q, 0, none⟩)) := (c4.cell (World.block_lt_of_cell? _ _ d6) (fun a => a (.inr rfl))).trans d6
  have ddx := (Chg.refl (fun _ => False) w4).alloc (.cells #[.int .i64 to] 3)
  have d8 : (w4.alloc (.cells #[.int .i64 to] 3)).cell? ⟨w.heap.size, 0, none⟩ = some (.pointer (some ⟨q, 0, none⟩)) := (ddx.cell (World.block_lt_of_cell? _ _ d7) (fun a => a)).trans d7
  have I4 := Lib.hid (show CopyI q p F s1 R1 root to w.heap.size w4.heap.size S [] (w4.alloc (.cells #[.int .i64 to] 3)) from ⟨s1, R1, HBEG.out.start, rfl, (m4.boxed ddx (by simp)).weak (fun k hk => by
    rcases hk with hk | hk | hk
    · exact .inl (.inl hk)
    · exact .inl (.inr hk)
    · exact .inr hk), d8, (Blk.new w4 _ _).cellv 0 _ rfl⟩)
  have C4 := Lib.hid ((M3.out.2.trans (c4.mono (fun k a b => a (.inl b)))).trans (ddx.mono (fun _ h => h.elim))); clear m4 c4 ddx d6 d7
  go_wp2_with fail
  refine (KC.out _ _ _ _ I4.out).out.mono ?_
  rintro e w5 ⟨rfl, i5, c5⟩
  obtain ⟨s5, R5, J⟩ := i5
  have d9 := J.cell2
  have hs5 : s5 = ⟨Fr', V'⟩ := J.eq.trans HTT.out
  have FIN := Lib.hid (show Pl S w5 q p F 0 Fr' V' ∧ Chg (fun k => ¬ S k) w w5 from ⟨by
    have k := J.pl.weak (S' := S) (fun k hk => .inl hk)
    rw [hs5] at k
    exact k, C4.out.trans c5⟩)
  clear J c5 hs5
  go_wp2_with fail
  go_ret2
  exact ⟨rfl, FIN.out⟩
end Go.Proofs.YtodjmfmenfncdaaGreat

namespace Go.Proofs.YtodjmfmenfncdaaGreat
open Go.RowKit

theorem Tryz.sizeBuilder : (Tryz.prog.info? 83).map (·.size) = some 2 := by kernel_rfl
theorem Tryz.liesBuilder : liesAt Tryz.prog Tryz.prog.depth 83 (2 / Tryz.prog.cellsOf 83) 0 83 1 = true := by kernel_rfl
theorem Tryz.infoByte8 : (Tryz.prog.info? 5).map (fun i => (i.zero, i.size, i.bytes)) = some (some (.int .u8 0), 1, 1) := by kernel_rfl
/-- a builder with its buffer -/
structure BK (B b : Nat) (p v : Value) (bs : List Value) (w : World) : Prop where
  le : B ≤ b
  blk : w.heap[b]? = some (.cells #[p, v] 83 (0, 0))
  own : w.ownsRow B 5 1 v bs.length bs
  ne : v.ownBlock ≠ some b
  addr : p = .pointer none ∨ p = .pointer (some ⟨b, 0, none⟩)
theorem BK.cell0 {B b : Nat} {p v : Value} {bs : List Value} {w : World} (h : BK B b p v bs w) : w.cell? ⟨b, 0, none⟩ = some p := by rw [Lib.cell_of_heap h.blk]; rfl
theorem BK.cell1 {B b : Nat} {p v : Value} {bs : List Value} {w : World} (h : BK B b p v bs w) : w.cell? ⟨b, 1, none⟩ = some v := by rw [Lib.cell_of_heap h.blk]; rfl
theorem BK.lt {B b : Nat} {p v : Value} {bs : List Value} {w : World} (h : BK B b p v bs w) : b < w.heap.size := by
  rcases Nat.lt_or_ge b w.heap.size with h' | h'
  · exact h'
  · have := h.blk
    simp [Array.getElem?_eq_none h'] at this
theorem BK.new (B : Nat) (w : World) (hB : B ≤ w.heap.size) : BK B w.heap.size (.pointer none) (.slice none 0 0) [] (w.alloc (.cells #[.pointer none, .slice none 0 0] 83)) :=
  ⟨hB, heap_alloc_new w _, World.ownsRow_nil _ _ _ _, (fun h => by cases h), .inl rfl⟩
theorem BK.is {B b : Nat} {p v : Value} {bs : List Value} {w : World} (h : BK B b p v bs w) : Lib.IsBuilder 83 5 B b bs w := by
  rcases h.addr with e | e
  · exact .inl ⟨h.le, v, by rw [← e]; exact h.blk, h.own, h.ne⟩
  · exact .inr ⟨h.le, v, by rw [← e]; exact h.blk, h.own, h.ne⟩
theorem BK.chg {B b : Nat} {p v : Value} {bs : List Value} {w w' : World} {S : Nat → Prop} (h : BK B b p v bs w) (c : Chg S w w') (hb : ¬ S b) (hv : ∀ k, v.ownBlock = some k → ¬ S k) : BK B b p v bs w' :=
  ⟨h.le, (c.block b h.lt hb).trans h.blk, ownsRow_chg h.own c hv, h.ne, h.addr⟩

set_option maxHeartbeats 1000000 in
set_option maxRecDepth 100000 in
theorem b_check_used (b : Nat) (w : World) (h0 : w.cell? ⟨b, 0, none⟩ = some (.pointer (some ⟨b, 0, none⟩))) :
    Calls Tryz.prog 70 #[.pointer (some ⟨b, 0, none⟩)] w fun e w' => e = .returned (.tuple #[]) ∧ w' = w := by
  obtain ⟨j, hj, _⟩ := Option.map_eq_some_iff.1 Tryz.sizeBuilder
  go_enter Tryz.func70, Tryz.ntmps70
  go_wp2_with fail
  rw [Lib.run_neq_ptr_same w _ Tryz.underlying81 hj]
  go_wp2_with fail
  go_end0
  exact ⟨rfl, rfl⟩
set_option maxHeartbeats 1000000 in
set_option maxRecDepth 100000 in
theorem b_check_fresh (b : Nat) (w : World) (h0 : w.cell? ⟨b, 0, none⟩ = some (.pointer none)) (hsh : w.shape? b = some (83, 2)) (hfz : w.frozen? ⟨b, 0, none⟩ = false) :
    Calls Tryz.prog 70 #[.pointer (some ⟨b, 0, none⟩)] w fun e w' => e = .returned (.tuple #[]) ∧ w' = w.setCell ⟨b, 0, none⟩ (.pointer (some ⟨b, 0, none⟩)) := by
  obtain ⟨j, hj, hjs⟩ := Option.map_eq_some_iff.1 Tryz.sizeBuilder
  go_enter Tryz.func70, Tryz.ntmps70
  go_wp2_with fail
  rw [Lib.run_to_unsafe w ⟨b, 0, none⟩ Tryz.underlying81 Tryz.underlying155 hj (by rw [hjs]; decide) hsh (Nat.zero_lt_succ 1)]
  simp only [Result.andThen]
  rw [Oper.upon_value]
  go_wp2_with fail
  rw [run_callFunc_extern Tryz.func90 (by kernel_rfl) (by kernel_rfl) (by kernel_rfl) (e := Extern.AbiNoEscape.same) (by kernel_rfl)]
  rw [Lib.run_noEscape]
  simp only [Result.andThen]
  rw [Oper.upon_value]
  go_wp2_with fail
  rw [Lib.run_from_unsafe w ⟨b, 0, none⟩ Tryz.underlying155 Tryz.underlying81 hj hsh Tryz.liesBuilder]
  simp only [Result.andThen]
  rw [Oper.upon_value]
  go_wp2_with fail
  go_end0
  exact ⟨rfl, rfl⟩
theorem blk_heap {w : World} {b : Nat} {cs : Array Value} {T : TypeId} (h : Blk w b cs T) : w.heap[b]? = some (.cells cs T (0, 0)) := h
theorem b_check {B b : Nat} {p v : Value} {bs : List Value} {w : World} (h : BK B b p v bs w) :
    Calls Tryz.prog 70 #[.pointer (some ⟨b, 0, none⟩)] w fun e w' => e = .returned (.tuple #[]) ∧ BK B b (.pointer (some ⟨b, 0, none⟩)) v bs w' ∧ Chg (fun k => k = b) w w' := by
  rcases h.addr with e | e
  · have hB : Lib.BuilderAt 83 5 B b (.pointer none) bs w := ⟨h.le, v, by rw [← e]; exact h.blk, h.own, h.ne⟩
    refine (b_check_fresh b w hB.cell0 hB.shape hB.frozen0).mono ?_
    rintro r w' ⟨rfl, rfl⟩
    have c : Chg (fun k => k = b) w (w.setCell ⟨b, 0, none⟩ (.pointer (some ⟨b, 0, none⟩))) := (Chg.refl _ w).setCell _ _ (.inl rfl)
    have hbk : Blk w b #[p, v] 83 := h.blk
    refine ⟨rfl, ⟨h.le, ?_, ownsRow_chg h.own c (fun k hk e => h.ne (e ▸ hk)), h.ne, .inr rfl⟩, c⟩
    exact blk_heap (show Blk _ b #[.pointer (some ⟨b, 0, none⟩), v] 83 from by simpa using hbk.set 0 (.pointer (some ⟨b, 0, none⟩)))
  · refine (b_check_used b w (by rw [h.cell0, e])).mono ?_
    rintro r w' ⟨rfl, rfl⟩
    exact ⟨rfl, e ▸ h, Chg.refl _ _⟩

theorem own_string_at {P : Program} {w : World} (base : Nat) (t u ty e : TypeId) (i : TypeInfo) (ht : P.underlying t = some (.slice e)) (hu : P.underlying u = some .string) (hi : P.info? e = some i) (hz : i.zero = some (.int .u8 0))
    (hsize : i.size = 1) (hby : i.bytes = 1) (v : Value) (n : Nat) (xs : List Value) (hown : w.ownsRow base e 1 v n xs) (s : ByteArray)
    (h63 : n + s.size ≤ maxLen) (hbytes : n + s.size ≤ 140737488355328) (hbase : base ≤ w.heap.size) :
    ∃ v' w', (Builtin.append_ #[t, u] ty #[v, .string s]).run P w = .ok v' w' ∧ w'.ownsRow base e 1 v' (n + s.size) (xs ++ Lib.strCells s) ∧ w.grownBy w' v.ownBlock ∧ (v'.ownBlock = v.ownBlock ∨ v'.ownBlock = some w.heap.size) := by
  obtain ⟨v', w', hr, h1, h2, h3⟩ := Lib.run_append_own_string (P := P) w base t u ty e i ht hu hi hz hsize hby v n xs hown s h63 hbytes hbase
  refine ⟨v', w', hr, h1, h2, ?_⟩
  have hxl : xs.length = n := by simpa using hown.1
  rcases hown.2 with ⟨rfl, rfl⟩ | ⟨g, cap, cur, rfl, hbg, hg, hnc, hcm, hcs, htake⟩
  · by_cases hm : s.size = 0
    · rw [h3.2 ⟨rfl, hm⟩]; exact .inl rfl
    · have hr2 := run_append_nil_string (P := P) w t u ty e i (.int .u8 0) ht hu hi hz s (by omega) (by omega) (by rw [hby]; omega)
      rw [hr] at hr2
      cases hr2
      exact .inr rfl
  · by_cases hroom : n + s.size ≤ cap
    · have hr2 := Lib.run_append_room_string (P := P) w t u ty e i ht hu hi hsize g n cap cur hg s hroom (by omega)
      rw [hr] at hr2
      cases hr2
      exact .inl rfl
    · have holds : ∀ j u, xs[j]? = some u → w.cell? ((⟨g, 0, none⟩ : Addr).add j) = some u := hown.cells (g := g) rfl
      have hr2 := Lib.run_append_grow_string (P := P) w t u ty e i (.int .u8 0) ht hu hi hz ⟨g, 0, none⟩ n cap xs (by rw [hsize]; simpa using hxl) holds s (by omega) (by unfold maxLen at h63; omega) (by rw [hby]; exact growslice_fits (by omega) (by omega))
      rw [hr] at hr2
      cases hr2
      exact .inr rfl
theorem wp_own_string_at {P : Program} {w : World} {ops : Array Oper} {rest : List Oper} {o : Oper} {a : Act} {Q : Exit → Act → World → Prop} (hgd : o.guard = none) (sl x : Operand) (t u : TypeId)
    (ho : o.op = .call { callee := .builtin .append, args := #[sl, x], argTypes := #[t, u] })
    (base : Nat) (e : TypeId) (i : TypeInfo) (ht : P.underlying t = some (.slice e)) (hu : P.underlying u = some .string) (hi : P.info? e = some i) (hz : i.zero = some (.int .u8 0))
    (hsize : i.size = 1) (hby : i.bytes = 1) (v : Value) (n : Nat) (xs : List Value) (hs : a.eval sl = v) (hown : w.ownsRow base e 1 v n xs) (s : ByteArray) (hx : a.eval x = .string s)
    (h63 : n + s.size ≤ maxLen) (hbytes : n + s.size ≤ 140737488355328) (hbase : base ≤ w.heap.size)
    (h : ∀ v' w', w'.ownsRow base e 1 v' (n + s.size) (xs ++ Lib.strCells s) → w.grownBy w' v.ownBlock → (v'.ownBlock = v.ownBlock ∨ v'.ownBlock = some w.heap.size) → wpList P ops Q rest (a.put o.dst v') w') : wpList P ops Q (o :: rest) a w := by
  refine wpList_plain hgd fun K hK => ?_
  obtain ⟨v', w', hr, h2, h3, h4⟩ := own_string_at (P := P) base t u o.type e i ht hu hi hz hsize hby v n xs hown s h63 hbytes hbase
  unfold Oper.wp execOp
  simp only [ho, resolve, invoke, builtin, Sem.run_bind, Sem.run_pure, Result.andThen_ok, List.map_toArray, List.map_cons, List.map_nil, hs, hx, hr]
  exact hK _ _ (h v' w' h2 h3 h4)
set_option maxHeartbeats 2000000 in
set_option maxRecDepth 100000 in
theorem b_write {B b : Nat} {p v : Value} {bs : List Value} {w : World} (h : BK B b p v bs w) (s : ByteArray) (hlen : bs.length + s.size ≤ 140737488355328) (hBw : B ≤ w.heap.size) :
    Calls Tryz.prog 35 #[.pointer (some ⟨b, 0, none⟩), .string s] w fun e w' => e = .returned (.tuple #[.int .i64 s.size, .nilIface]) ∧ ∃ v', BK B b (.pointer (some ⟨b, 0, none⟩)) v' (bs ++ Lib.strCells s) w' ∧ Chg (fun k => k = b ∨ v.ownBlock = some k) w w' ∧ (v'.ownBlock = v.ownBlock ∨ ∀ k, v'.ownBlock = some k → w.heap.size ≤ k) := by
  obtain ⟨i0, hi, hz0, hz1, hz2⟩ := info_parts Tryz.infoByte8
  have KC := Lib.hid (b_check h)
  have hbl := h.lt
  clear h
  go_enter Tryz.func35, Tryz.ntmps35
  go_wp2_with fail
  refine KC.out.mono ?_
  rintro e w1 ⟨rfl, h1, hc1⟩
  have c0 := h1.cell0
  have c1 := h1.cell1
  have hown := h1.own
  go_wp2_with (at_builtin; refine wp_own_string_at rfl _ _ 46 9 rfl B 5 i0 Tryz.underlying46 Tryz.underlying9 hi hz0 hz1 hz2 _ _ _ rfl hown s rfl ?c3 ?c4 ?c5 ?_)
  case c3 => unfold maxLen; omega
  case c4 => omega
  case c5 => have := hc1.size; omega
  intro v' w2 hown' hgrow hat
  have hc2 : Chg (fun k => v.ownBlock = some k) w1 w2 := (Chg.refl _ w1).grown hgrow (fun k hk => .inl hk)
  have hb2 : w2.heap[b]? = some (.cells #[.pointer (some ⟨b, 0, none⟩), v] 83 (0, 0)) := (hc2.block b h1.lt h1.ne).trans h1.blk
  have d0 : w2.cell? ⟨b, 0, none⟩ = some (.pointer (some ⟨b, 0, none⟩)) := by rw [Lib.cell_of_heap hb2]; rfl
  have d1 : w2.cell? ⟨b, 1, none⟩ = some v := by rw [Lib.cell_of_heap hb2]; rfl
  have f1 : w2.frozen? ⟨b, 1, none⟩ = false := Lib.frozen_of_heap hb2 1
  have hne : v'.ownBlock ≠ some b := by
    rcases hat with e | e
    · rw [e]; exact h1.ne
    · rw [e]; intro e2; have e3 := Option.some.inj e2; have := h1.lt; omega
  have FIN := Lib.hid (show BK B b (.pointer (some ⟨b, 0, none⟩)) v' (bs ++ Lib.strCells s) (w2.setCell ⟨b, 1, none⟩ v') ∧ Chg (fun k => k = b ∨ v.ownBlock = some k) w (w2.setCell ⟨b, 1, none⟩ v') ∧ (v'.ownBlock = v.ownBlock ∨ ∀ k, v'.ownBlock = some k → w.heap.size ≤ k) from by
    have hbk : Blk w2 b #[.pointer (some ⟨b, 0, none⟩), v] 83 := hb2
    have hcs : Chg (fun k => k = b) w2 (w2.setCell ⟨b, 1, none⟩ v') := (Chg.refl _ w2).setCell _ _ (.inl rfl)
    refine ⟨⟨h1.le, ?_, ?_, hne, .inr rfl⟩, ((hc1.mono (fun k a => .inl a)).trans (hc2.mono (fun k a => .inr a))).trans (hcs.mono (fun k a => .inl a)), ?_⟩
    · exact blk_heap (show Blk _ b #[.pointer (some ⟨b, 0, none⟩), v'] 83 from by simpa using hbk.set 1 v')
    · rw [List.length_append, Lib.strCells_length]
      exact ownsRow_chg hown' hcs (fun k hk e => hne (e ▸ hk))
    · refine hat.imp id fun e k hk => ?_
      rw [e] at hk
      cases hk
      exact hc1.size)
  have hv' : ∃ ao n' cap, v' = .slice ao n' cap := by
    rcases hown'.2 with ⟨hv, _⟩ | ⟨g, cap, cur, hv, _⟩
    · exact ⟨_, _, _, hv⟩
    · exact ⟨_, _, _, hv⟩
  obtain ⟨ao, n', cap, rfl⟩ := hv'
  clear hown' hgrow hat hown h1 hc1 hc2 hb2 hne
  go_wp2_with fail
  go_ret2
  exact ⟨rfl, _, FIN.out⟩
end Go.Proofs.YtodjmfmenfncdaaGreat

namespace Go.Proofs.YtodjmfmenfncdaaGreat
open Go.RowKit

theorem Tryz.cellsByte : Tryz.prog.cellsOf 5 = 1 := by kernel_rfl
theorem Chg.freeze {S : Nat → Prop} {a w : World} (h : Chg S a w) {p : Addr} (hp : S p.block) (n : Nat) : Chg S a (w.freeze p n) := by
  refine h.trans ?_
  unfold World.freeze
  split
  · exact Chg.refl _ _
  · exact ⟨rfl, rfl, rfl, by simp, fun k _ hk => by
      simp only [Array.getElem?_modify]
      rw [if_neg (fun (e : p.block = k) => hk (e ▸ hp))]⟩
set_option maxHeartbeats 1000000 in
set_option maxRecDepth 100000 in
theorem b_string_some {B b : Nat} {p v : Value} {l : List UInt8} {w : World} (h : BK B b p v (Lib.byteCells l) w) (h0 : l ≠ []) :
    Calls Tryz.prog 33 #[.pointer (some ⟨b, 0, none⟩)] w fun e w' => e = .returned (.string ⟨l.toArray⟩) ∧ Chg (fun k => v.ownBlock = some k) w w' := by
  have hl0 : l.length ≠ 0 := by simpa using h0
  have hown := h.own
  rw [Lib.byteCells_length] at hown
  obtain ⟨g, cap, cur, hv, hbg, hg, hnc, hcm, hcs, htake⟩ : ∃ g cap cur, v = .slice (some ⟨g, 0, none⟩) l.length cap ∧ B ≤ g ∧ w.heap[g]? = some (.cells cur 5 (0, 0)) ∧ l.length ≤ cap ∧ cap ≤ maxLen ∧ cur.size = cap * 1 ∧ cur.toList.take (l.length * 1) = Lib.byteCells l := by
    rcases hown.2 with ⟨_, hz⟩ | ⟨g, cap, cur, hv, r⟩
    · exact absurd hz hl0
    · exact ⟨g, cap, cur, hv, r⟩
  subst hv
  have c1 : w.drew.cell? ⟨b, 1, none⟩ = some (.slice (some ⟨g, 0, none⟩) l.length cap) := by
    have : w.drew.heap[b]? = some (.cells #[p, .slice (some ⟨g, 0, none⟩) l.length cap] 83 (0, 0)) := h.blk
    rw [Lib.cell_of_heap this]; rfl
  have hSD : (Builtin.unsafeSliceData_ #[46] 141 #[.slice (some ⟨g, 0, none⟩) l.length cap]).run Tryz.prog w.drew = .ok (.pointer (some ⟨g, 0, none⟩)) w.drew :=
    Lib.run_unsafeSliceData_row _ _ _ _ _ _ (by omega)
  have hUS : (Builtin.unsafeString_ #[141, 3] 9 #[.pointer (some ⟨g, 0, none⟩), .int .i64 l.length]).run Tryz.prog w.drew = .ok (.string ⟨l.toArray⟩) (w.drew.freeze ⟨g, 0, none⟩ l.length) := by
    refine Lib.run_unsafeString_row w.drew 141 3 9 5 Tryz.underlying141 Tryz.cellsByte g cur.size (by have hg' : w.drew.heap[g]? = some (.cells cur 5 (0, 0)) := hg; simp [World.shape?, hg']) l h0 (by omega) (by unfold maxLen at hcm; omega) ?_
    intro j x hx
    have := hown.cells (g := g) rfl j (.int .u8 x.toNat) (by simp [Lib.byteCells, hx])
    exact this
  have hne := h.ne
  clear h hown hbg hg hnc hcm hcs htake h0 hl0 hne
  go_enter Tryz.func33, Tryz.ntmps33
  go_wp2_with fail
  go_region
  all_goals (go_wp2_with fail; go_ret; exact ⟨rfl, (Chg.freeze (S := fun k => (Value.slice (some ⟨g, 0, none⟩) l.length cap).ownBlock = some k) ((Chg.refl _ w).drew) (p := ⟨g, 0, none⟩) rfl _)⟩)
set_option maxHeartbeats 1000000 in
set_option maxRecDepth 100000 in
theorem b_string_none {B b : Nat} {p : Value} {w : World} (h : BK B b p (.slice none 0 0) [] w) :
    Calls Tryz.prog 33 #[.pointer (some ⟨b, 0, none⟩)] w fun e w' => e = .returned (.string ⟨#[]⟩) ∧ Chg (fun _ => False) w w' := by
  have hUS := fun (W : World) (q : Option Addr) => Lib.run_unsafeString_none (P := Tryz.prog) W 141 3 9 q
  have c1 : w.drew.cell? ⟨b, 1, none⟩ = some (.slice none 0 0) := by
    have : w.drew.heap[b]? = some (.cells #[p, .slice none 0 0] 83 (0, 0)) := h.blk
    rw [Lib.cell_of_heap this]; rfl
  have hSD : (Builtin.unsafeSliceData_ #[46] 141 #[.slice none 0 0]).run Tryz.prog w.drew = .ok (.pointer none) w.drew := rfl
  clear h
  go_enter Tryz.func33, Tryz.ntmps33
  go_wp2_with fail
  go_region
  all_goals (go_wp2_with fail; go_ret; exact ⟨rfl, (Chg.refl _ w).drew⟩)
end Go.Proofs.YtodjmfmenfncdaaGreat

namespace Go.Proofs.YtodjmfmenfncdaaGreat
open Go.RowKit

/-- the bytes at these addresses -/
def inS (V : Nat → Nat) (xs : List Nat) : List UInt8 := xs.flatMap fun a => (memStr V a 1).data.toList
theorem inS_next (V : Nat → Nat) (xs : List Nat) (a : Nat) : inS V (xs ++ [a]) = inS V xs ++ (memStr V a 1).data.toList := by
  unfold inS
  rw [List.flatMap_append]
  simp
theorem memStr_one_len (V : Nat → Nat) (a : Nat) : (memStr V a 1).data.toList.length = 1 := by
  have := memStr_size V a 1
  simpa using this
theorem inS_len (V : Nat → Nat) : ∀ xs : List Nat, (inS V xs).length = xs.length
  | [] => rfl
  | x :: xs => by
    have h : inS V (x :: xs) = (memStr V x 1).data.toList ++ inS V xs := by unfold inS; rw [List.flatMap_cons]
    rw [h, List.length_append, memStr_one_len, inS_len V xs, List.length_cons]
    omega
theorem gtS_one {V : Nat → Nat} {F a : Nat} (h : a < F * 256) : gtS F V a 1 = memStr V a 1 ∧ cdG F a 1 = 0 := by
  have h2 : cdG F a 1 = 0 := by
    unfold cdG
    rw [if_neg (by omega), if_pos (by show a + 1 ≤ F * 256; omega)]
  refine ⟨?_, h2⟩
  unfold gtS
  rw [if_pos h2]
  rfl
/-- a pool and a builder beside it -/
structure BX (S : Nat → Prop) (w : World) (b q p F : Nat) (Fr : Nat → Bool) (V : Nat → Nat) (pv v : Value) (l : List UInt8) (wr : World) : Prop where
  bk : BK w.heap.size b pv v (Lib.byteCells l) wr
  pl : Pl (fun k => S k ∨ k = b ∨ v.ownBlock = some k) wr q p F 0 Fr V
  chg : Chg (fun k => ¬ S k) w wr
  nil : l = [] → v = .slice none 0 0
theorem BX.new {S : Nat → Prop} {w : World} {q p F : Nat} {Fr : Nat → Bool} {V : Nat → Nat} (h : Pl S w q p F 0 Fr V) : BX S w w.heap.size q p F Fr V (.pointer none) (.slice none 0 0) [] (w.alloc (.cells #[.pointer none, .slice none 0 0] 83)) := by
  have c : Chg (fun _ => False) w (w.alloc (.cells #[.pointer none, .slice none 0 0] 83)) := (Chg.refl _ w).alloc _
  refine ⟨BK.new _ _ (Nat.le_refl _), (h.boxed c (by simp)).weak (fun k hk => ?_), c.mono (fun _ h => h.elim), fun _ => rfl⟩
  rcases hk with hk | hk | hk
  · exact .inl hk
  · exact .inr hk
  · cases hk
theorem BX.stepped {S : Nat → Prop} {w wr w' : World} {b q p F : Nat} {Fr Fr' : Nat → Bool} {V V' : Nat → Nat} {pv v r : Value} {l : List UInt8} {e : Ending} (h : BX S w b q p F Fr V pv v l wr) (k : StepF (fun k => S k ∨ k = b ∨ v.ownBlock = some k) wr q p F 0 Fr' V' r e w') : BX S w b q p F Fr' V' pv v l w' :=
  ⟨h.bk.chg k.2.2 (fun a => a (.inr (.inl rfl))) (fun k hk a => a (.inr (.inr hk))), k.2.1, h.chg.trans (k.2.2.mono (fun k a b => a (.inl b))), h.nil⟩
theorem BX.quiet {S : Nat → Prop} {w wr w' : World} {b q p F : Nat} {Fr : Nat → Bool} {V : Nat → Nat} {pv v : Value} {l : List UInt8} (h : BX S w b q p F Fr V pv v l wr) (c : Chg (fun _ => False) wr w') : BX S w b q p F Fr V pv v l w' :=
  ⟨h.bk.chg c (fun a => a) (fun _ _ a => a), h.pl.nothing c, h.chg.trans (c.mono (fun _ h => h.elim)), h.nil⟩
theorem BX.written {S : Nat → Prop} {w wr w' : World} {b q p F : Nat} {Fr : Nat → Bool} {V : Nat → Nat} {pv v v' : Value} {l : List UInt8} (h : BX S w b q p F Fr V pv v l wr) (s : ByteArray) (h0 : 0 < s.size)
    (k1 : BK w.heap.size b (.pointer (some ⟨b, 0, none⟩)) v' (Lib.byteCells l ++ Lib.strCells s) w') (k2 : Chg (fun k => k = b ∨ v.ownBlock = some k) wr w') (k3 : v'.ownBlock = v.ownBlock ∨ ∀ k, v'.ownBlock = some k → wr.heap.size ≤ k) :
    BX S w b q p F Fr V (.pointer (some ⟨b, 0, none⟩)) v' (l ++ s.data.toList) w' := by
  refine ⟨?_, h.pl.beside k2 (fun k hk => .inr hk) (fun k hk => ?_) (fun k hk => ?_), h.chg.trans' k2 (fun k hk => .inr ?_), fun e => ?_⟩
  · rw [Lib.byteCells_append, ← Lib.strCells_eq]; exact k1
  · rcases hk with hk | hk | hk
    · exact .inl (.inl hk)
    · exact .inl (.inr (.inl hk))
    · rcases k3 with e | e
      · exact .inl (.inr (.inr (e ▸ hk)))
      · exact .inr (e k hk)
  · rcases hk with hk | rfl | hk
    · exact Nat.lt_of_lt_of_le (h.pl.lt k (.inl hk)) k2.size
    · exact k1.lt
    · exact (ownsRow_lt k1.own k hk).2
  · rcases hk with rfl | hk
    · exact h.bk.le
    · exact (ownsRow_lt h.bk.own k hk).1
  · have h1 : (l ++ s.data.toList).length = 0 := by rw [e]; rfl
    rw [List.length_append] at h1
    have : s.data.toList.length = s.size := by simp
    omega
/-- what String answers -/
theorem bx_string {S : Nat → Prop} {w wr : World} {b q p F : Nat} {Fr : Nat → Bool} {V : Nat → Nat} {pv v : Value} {l : List UInt8} (h : BX S w b q p F Fr V pv v l wr) :
    Calls Tryz.prog 33 #[.pointer (some ⟨b, 0, none⟩)] wr fun e w' => e = .returned (.string ⟨l.toArray⟩) ∧ Pl S w' q p F 0 Fr V ∧ Chg (fun k => ¬ S k) w w' := by
  by_cases e : l = []
  · subst e
    have hv := h.nil rfl
    subst hv
    exact (b_string_none h.bk).mono fun r w' ⟨h1, h2⟩ => ⟨h1, (h.pl.nothing h2).weak (fun k hk => .inl hk), h.chg.trans (h2.mono (fun _ h => h.elim))⟩
  · refine (b_string_some h.bk e).mono fun r w' ⟨h1, h2⟩ => ⟨h1, h.pl.beside h2 (fun k hk => .inr (.inr hk)) (fun k hk => .inl (.inl hk)) (fun k hk => Nat.lt_of_lt_of_le (h.pl.lt k (.inl hk)) h2.size), h.chg.trans' h2 (fun k hk => .inr (ownsRow_lt h.bk.own k hk).1)⟩
theorem bx_write {S : Nat → Prop} {w wr : World} {b q p F : Nat} {Fr : Nat → Bool} {V : Nat → Nat} {pv v : Value} {l : List UInt8} (h : BX S w b q p F Fr V pv v l wr) (s : ByteArray) (h0 : 0 < s.size) (hl : l.length + s.size ≤ 140737488355328) :
    Calls Tryz.prog 35 #[.pointer (some ⟨b, 0, none⟩), .string s] wr fun e w' => e = .returned (.tuple #[.int .i64 s.size, .nilIface]) ∧ ∃ v', BX S w b q p F Fr V (.pointer (some ⟨b, 0, none⟩)) v' (l ++ s.data.toList) w' :=
  (b_write h.bk s (by rw [Lib.byteCells_length]; exact hl) h.chg.size).mono fun e w' ⟨h1, v', k1, k2, k3⟩ => ⟨h1, v', h.written s h0 k1 k2 k3⟩

theorem sp_in_nil (w : World) (root at_ n : Int) :
    Calls Tryz.prog 10 #[.pointer none, .int .i64 root, .int .u64 at_, .int .i64 n] w fun e w' => e = .returned (.tuple #[.string ⟨#[]⟩, .int .i64 1]) ∧ w = w' := by
  have HT := Lib.hid (sp_taken_nil w root)
  go_enter Tryz.func10, Tryz.ntmps10
  go_wp2_with fail
  refine HT.out.mono ?_
  rintro e w1 ⟨rfl, rfl⟩
  go_wp2_with fail
  go_ret2
  exact ⟨rfl, rfl⟩
theorem sp_text_nil (w : World) (root at_ n : Int) :
    Calls Tryz.prog 9 #[.pointer none, .int .i64 root, .int .u64 at_, .int .i64 n] w fun e w' => e = .returned (.tuple #[.string ⟨#[]⟩, .int .i64 1]) ∧ w = w' := by
  have HT := Lib.hid (sp_taken_nil w root)
  go_enter Tryz.func9, Tryz.ntmps9
  go_wp2_with fail
  refine HT.out.mono ?_
  rintro e w1 ⟨rfl, rfl⟩
  go_wp2_with fail
  go_ret2
  exact ⟨rfl, rfl⟩
theorem sp_copy_nil (w : World) (root : Int) :
    Calls Tryz.prog 22 #[.pointer none, .int .i64 root] w fun e w' => e = .returned (.tuple #[.int .i64 0, .int .i64 1]) ∧ Chg (fun _ => False) w w' := by
  have HT := fun W => Lib.hid (sp_taken_nil W root)
  have HT := Lib.hid HT
  go_enter Tryz.func22, Tryz.ntmps22
  go_wp2_with fail
  refine (HT.out _).out.mono ?_
  rintro e w1 ⟨rfl, rfl⟩
  go_wp2_with fail
  go_ret2
  exact ⟨rfl, (Chg.refl _ _).alloc _⟩
end Go.Proofs.YtodjmfmenfncdaaGreat

namespace Go.Proofs.YtodjmfmenfncdaaGreat
open Go.RowKit

/-- behind j bytes -/
def InAt (V : Nat → Nat) (F root at_ j : Nat) (l : List UInt8) : Prop := ∃ xs, adrs V F root at_ 1 j = some xs ∧ l = inS V xs
def inR (V : Nat → Nat) : Option (List Nat) → Value
  | none => .tuple #[.string ⟨#[]⟩, .int .i64 3]
  | some xs => .tuple #[.string ⟨(inS V xs).toArray⟩, .int .i64 0]
set_option maxRecDepth 100000 in
set_option maxHeartbeats 1600000 in
theorem sp_in {S : Nat → Prop} {w : World} {q p F : Nat} {Fr : Nat → Bool} {V : Nat → Nat} {R : Roles} (h : Pl S w q p F 0 Fr V) (hF : F ≤ 256) (hW : WF F Fr V R) (root : Nat) (hr : R root = some (root, 3, 0)) (at_ n : Nat) (hn : n ≤ 4096) :
    Calls Tryz.prog 10 #[.pointer (some ⟨q, 0, none⟩), .int .i64 root, .int .u64 at_, .int .i64 n] w (StepF S w q p F 0 Fr V (inR V (adrs V F root at_ 1 n))) := by
  have HT := sp_taken h hF root
  rw [hW.taken hr] at HT
  have hrF := hW.lt _ _ hr
  have KW := fun (W : World) (S' : Nat → Prop) (x : Nat) (H : Pl S' W q p F 0 Fr V) => f_wk H hF root x 1
  have KW := fun (W : World) (S' : Nat → Prop) (x : Nat) (H : Pl S' W q p F 0 Fr V) => (wkR_at V F root x 1 hrF (by omega)) ▸ KW W S' x H
  have d1 : decide ((4096 : Int) < (n : Int)) = false := decide_eq_false (by omega)
  have d2 : ¬ 4096 < n := by omega
  have d3 : decide ((n : Int) < (0 : Int)) = false := decide_eq_false (by omega)
  have HT := Lib.hid HT; have KW := Lib.hid KW
  have HN := Lib.hid (And.intro hn hF)
  clear h hF hW hr hrF hn
  go_enter Tryz.func10, Tryz.ntmps10
  go_wp2_with fail
  refine HT.out.mono ?_
  rintro e w1 ⟨rfl, m1, c1⟩
  have M1 := Lib.hid (BX.new m1); have C1 := Lib.hid c1; clear m1 c1
  go_wp2_with fail
  go_loopw [29] (fun i wr => ∃ pv v l j, j ≤ n ∧ i = .int .i64 (j : Nat) ∧ Hid (BX S w1 w1.heap.size q p F Fr V pv v l wr) ∧ Hid (InAt V F root at_ j l)) (fun i _ => n - (intOf i).toNat)
  case atStart => exact ⟨_, _, [], 0, Nat.zero_le _, rfl, M1, Lib.hid ⟨[], rfl, rfl⟩⟩
  case round =>
    obtain ⟨pv, v, l, j, hj, rfl, HA, HO⟩ := hrel
    obtain ⟨xs, hxs, hl⟩ := HO.out
    by_cases hlt : j < n
    · have k0 : decide ((j : Int) < (n : Int)) = true := decide_eq_true (by omega)
      have hn := HN.out.1
      have hlen := adrs_len j xs hxs
      have hll : l.length = j := by rw [hl, inS_len, hlen]
      obtain ⟨t1, t2⟩ := at_wrap at_ j (by omega)
      obtain ⟨X, hX⟩ : ∃ X, X = (at_ + j) % 18446744073709551616 := ⟨_, rfl⟩
      rw [← hX] at t2
      have KM := Lib.hid (f_mem HA.out.pl)
      have KW1 := KW.out wr _ X HA.out.pl
      have HX := Lib.hid hX
      have HL := Lib.hid (And.intro hll (And.intro hxs hl))
      clear hX hn hlen hll hxs hl
      rcases opt_cases (tbAt V F root X 1) with ht | ⟨a, ht⟩
      · have hno := adrs_none (j + 1) n (by omega) (adrs_step_no HL.out.2.1 (by rw [← HX.out]; exact ht))
        rw [ht, lfVal_none] at KW1
        have KW1 := Lib.hid KW1
        rw [hno]
        clear ht hno
        go_wp2_with fail
        refine KM.out.mono ?_
        rintro e w' ⟨rfl, rfl⟩
        go_wp2_with fail
        refine KW1.out.mono ?_
        rintro e w3 ⟨rfl, m3, c3⟩
        have M3 := Lib.hid (HA.out.stepped ⟨rfl, m3, c3⟩ (r := .int .u64 0) (e := .returned (.int .u64 0))); clear m3 c3
        go_wp2_with fail
        go_ret2
        exact ⟨rfl, M3.out.pl.weak (fun k a => .inl a), C1.out.trans M3.out.chg⟩
      · have haF := tbAt_lt ht
        have HST := Lib.hid (show InAt V F root at_ (j + 1) (l ++ (memStr V a 1).data.toList) from ⟨xs ++ [a], adrs_step HL.out.2.1 (by rw [← HX.out]; exact ht), by rw [inS_next, HL.out.2.2]⟩)
        rw [ht, lfVal_some] at KW1
        have KW1 := Lib.hid KW1
        have hF2 := HN.out.2
        have KG := fun (W : World) (S' : Nat → Prop) (H : Pl S' W q p F 0 Fr V) => f_get H hF2 a (by omega) 1 (by omega) (a : Int) rfl
        rw [(gtS_one (V := V) haF).1, (gtS_one (V := V) haF).2] at KG
        have KMM := fun (W : World) (S' : Nat → Prop) (H : Pl S' W q p F 0 Fr V) => f_mem H
        have hsz := memStr_size V a 1
        generalize memStr V a 1 = s1 at *
        have KB := fun (W : World) (H : BX S w1 w1.heap.size q p F Fr V pv v l W) => bx_write H s1 (by omega) (by rw [HL.out.1, hsz]; have := HN.out.1; omega)
        have KG := Lib.hid KG; have KMM := Lib.hid KMM; have KB := Lib.hid KB
        clear ht haF hF2 hsz
        go_wp2_with fail
        refine KM.out.mono ?_
        rintro e w' ⟨rfl, rfl⟩
        go_wp2_with fail
        refine KW1.out.mono ?_
        rintro e w3 ⟨rfl, m3, c3⟩
        have M3 := Lib.hid (HA.out.stepped ⟨rfl, m3, c3⟩ (r := .int .u64 0) (e := .returned (.int .u64 0))); clear m3 c3
        have KM2 := Lib.hid (KMM.out _ _ M3.out.pl)
        have KG2 := Lib.hid (KG.out _ _ M3.out.pl)
        clear t1 t2
        go_wp2_with fail
        refine KM2.out.mono ?_
        rintro e w' ⟨rfl, rfl⟩
        go_wp2_with fail
        refine KG2.out.mono ?_
        rintro e w4 ⟨rfl, m4, c4⟩
        have M4 := Lib.hid (M3.out.stepped ⟨rfl, m4, c4⟩ (r := .int .u64 0) (e := .returned (.int .u64 0))); clear m4 c4
        go_wp2_with fail
        refine (KB.out _ M4.out).mono ?_
        rintro e w5 ⟨rfl, v5, m5⟩
        have M5 := Lib.hid m5; clear m5
        go_wp2_with fail
        go_roundw
        case rel => exact ⟨_, _, _, j + 1, by omega, by go_num, M5, HST⟩
        case measure => simp [intOf]; omega
    · obtain rfl : j = n := by omega
      have k0 : decide ((j : Int) < (j : Int)) = false := decide_eq_false (by omega)
      have HE : inR V (some xs) = .tuple #[.string ⟨l.toArray⟩, .int .i64 0] := by rw [hl]; rfl
      rw [← hxs] at HE
      have HE := Lib.hid HE
      have KS := Lib.hid (bx_string HA.out)
      clear hlt hxs hl
      go_wp2_with fail
      refine KS.out.mono ?_
      rintro e w5 ⟨rfl, m5, c5⟩
      have M5 := Lib.hid (And.intro m5 c5); clear m5 c5
      go_wp2_with fail
      go_ret2
      exact ⟨congrArg Ending.returned HE.out.symm, M5.out.1, C1.out.trans M5.out.2⟩
end Go.Proofs.YtodjmfmenfncdaaGreat
