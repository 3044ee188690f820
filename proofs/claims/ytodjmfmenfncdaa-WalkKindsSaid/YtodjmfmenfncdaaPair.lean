/-
  A memory and the document's, that share nothing: each call on either.
-/
import Derived.Test.YtodjmfmenfncdaaRefMem3
namespace Go.Proofs.Ytodjmfmenfncdaa
open Go.RowKit

/-- both own none of the blocks of S -/
def Pair (S : Nat → Prop) (w : World) (p r F : Nat) (V : Nat → Nat) (t : Nat) (U : Nat → Nat) (u : Nat) : Prop :=
  ∃ o g, t < 18446744073709551616 ∧ u < 18446744073709551616 ∧ MemA w p o F V t ∧ RM w r g F U u ∧ (∀ k, MemOwn p o k → ¬ (k = r ∨ k = g)) ∧ (∀ k, MemOwn p o k → ¬ S k) ∧ ¬ S r ∧ ¬ S g ∧ ∀ k, S k → k < w.heap.size
/-- a step that leaves the blocks of S -/
def StepP (S : Nat → Prop) (w : World) (p r F : Nat) (V : Nat → Nat) (t : Nat) (U : Nat → Nat) (u : Nat) (v : Value) (e : Ending) (w' : World) : Prop := e = .returned v ∧ Pair S w' p r F V t U u ∧ Chg (fun k => ¬ S k) w w'

theorem Pair.left {S : Nat → Prop} {w w' : World} {p r g F u t' : Nat} {o : Option Nat} {V' U : Nat → Nat} {v : Value} {e : Ending} (ht : t' < 18446744073709551616) (hu : u < 18446744073709551616) (h2 : RM w r g F U u) (hd : ∀ k, MemOwn p o k → ¬ (k = r ∨ k = g))
    (hB : ∀ k, MemOwn p o k → ¬ S k) (hr : ¬ S r) (hg : ¬ S g) (hS : ∀ k, S k → k < w.heap.size) (k : MemK w p F t' o V' v e w') : StepP S w p r F V' t' U u v e w' := by
  obtain ⟨he, o', hm, hc, hk⟩ := k
  have l1 := h2.blk.lt
  have l2 := h2.row.lt
  refine ⟨he, ⟨o', g, ht, hu, hm, h2.chg hc (fun a => hd r a (.inl rfl)) (fun a => hd g a (.inr rfl)), fun k a b => ?_, fun k a => (hk k a).elim (hB k) (fun h h' => by have := hS k h'; omega), hr, hg, fun k h => Nat.lt_of_lt_of_le (hS k h) hc.size⟩, hc.mono hB⟩
  rcases hk k a with h | h
  · exact hd k h b
  · rcases b with rfl | rfl <;> omega
theorem Pair.right {S : Nat → Prop} {w w' : World} {p r g F u' t : Nat} {o : Option Nat} {V U' : Nat → Nat} {v : Value} {e : Ending} (ht : t < 18446744073709551616) (hu : u' < 18446744073709551616) (h1 : MemA w p o F V t) (hd : ∀ k, MemOwn p o k → ¬ (k = r ∨ k = g))
    (hB : ∀ k, MemOwn p o k → ¬ S k) (hr : ¬ S r) (hg : ¬ S g) (hS : ∀ k, S k → k < w.heap.size) (k : RmK w r g F u' U' v e w') : StepP S w p r F V t U' u' v e w' := by
  obtain ⟨he, hm, hc⟩ := k
  exact ⟨he, ⟨o, g, ht, hu, h1.chg hc (fun k a b => hd k a b), hm, hd, hB, hr, hg, fun k h => Nat.lt_of_lt_of_le (hS k h) hc.size⟩, hc.mono (fun k h => by rcases h with rfl | rfl <;> assumption)⟩
theorem Pair.nothing {S : Nat → Prop} {w w' : World} {p r F t u : Nat} {V U : Nat → Nat} (h : Pair S w p r F V t U u) (c : Chg (fun _ => False) w w') : Pair S w' p r F V t U u := by
  obtain ⟨o, g, ht, hu, h1, h2, hd, hB, hr, hg, hS⟩ := h
  exact ⟨o, g, ht, hu, h1.chg c (fun _ _ h => h), h2.chg c (fun h => h) (fun h => h), hd, hB, hr, hg, fun k h => Nat.lt_of_lt_of_le (hS k h) c.size⟩
theorem Pair.drew {S : Nat → Prop} {w : World} {p r F t u : Nat} {V U : Nat → Nat} (h : Pair S w p r F V t U u) : Pair S w.drew p r F V t U u := h.nothing (Chg.refl _ _).drew
theorem Pair.weak {S S' : Nat → Prop} {w : World} {p r F t u : Nat} {V U : Nat → Nat} (h : Pair S w p r F V t U u) (hs : ∀ k, S' k → S k) : Pair S' w p r F V t U u := by
  obtain ⟨o, g, ht, hu, h1, h2, hd, hB, hr, hg, hS⟩ := h
  exact ⟨o, g, ht, hu, h1, h2, hd, fun k a b => hB k a (hs k b), fun a => hr (hs _ a), fun a => hg (hs _ a), fun k h => hS k (hs k h)⟩
/-- a block that is made beside them -/
theorem Pair.box {S : Nat → Prop} {w w' : World} {p r F t u : Nat} {V U : Nat → Nat} (h : Pair S w p r F V t U u) (c : Chg (fun _ => False) w w') (hn : w.heap.size < w'.heap.size) : Pair (fun k => S k ∨ k = w.heap.size) w' p r F V t U u := by
  obtain ⟨o, g, ht, hu, h1, h2, hd, hB, hr, hg, hS⟩ := h
  have l0 := h1.lt
  have l1 := h2.blk.lt
  have l2 := h2.row.lt
  refine ⟨o, g, ht, hu, h1.chg c (fun _ _ h => h), h2.chg c (fun h => h) (fun h => h), hd, fun k a b => ?_, fun a => ?_, fun a => ?_, fun k a => ?_⟩
  · rcases b with b | b
    · exact hB k a b
    · have := l0 k a; omega
  · rcases a with a | a
    · exact hr a
    · omega
  · rcases a with a | a
    · exact hg a
    · omega
  · rcases a with a | a
    · have := hS k a; omega
    · omega
theorem Pair.small {S : Nat → Prop} {w : World} {p r F t u : Nat} {V U : Nat → Nat} (h : Pair S w p r F V t U u) : (∀ i, V i < 256) ∧ ∀ i, U i < 256 := by
  obtain ⟨o, g, ht, hu, h1, h2, hd, hB, hr, hg, hS⟩ := h
  exact ⟨h1.small, h2.small⟩
theorem Pair.lt {S : Nat → Prop} {w : World} {p r F t u : Nat} {V U : Nat → Nat} (h : Pair S w p r F V t U u) : ∀ k, S k → k < w.heap.size := by
  obtain ⟨o, g, ht, hu, h1, h2, hd, hB, hr, hg, hS⟩ := h
  exact hS
/-- the document's fields -/
theorem Pair.fields {S : Nat → Prop} {w : World} {p r F t u : Nat} {V U : Nat → Nat} (h : Pair S w p r F V t U u) :
    ∃ g, w.cell? ⟨r, 0, none⟩ = some (.slice (some ⟨g, 0, none⟩) (F * 256) (F * 256)) ∧ w.cell? ⟨r, 1, none⟩ = some (.int .u64 u) ∧ ∀ cap, (convert 51 9 (.slice (some ⟨g, 0, none⟩) (F * 256) cap)).run Try.prog w = .ok (.string (memStr U 0 (F * 256))) w := by
  obtain ⟨o, g, ht, hu, h1, h2, hd, hB, hr, hg, hS⟩ := h
  exact ⟨g, h2.blk.cellv 0 _ rfl, h2.blk.cellv 1 _ rfl, fun cap => row_string w g (F * 256) U h2.row 0 0 (F * 256) cap (fun _ => rfl) (by omega)⟩
abbrev Old (B : Nat) : Nat → Prop := fun k => k < B
theorem Chg.old {B : Nat} {w w' : World} (h : Chg (fun k => ¬ Old B k) w w') (hB : B ≤ w.heap.size) : Below B w w' := h.below hB (fun _ h => Nat.le_of_not_lt h)
/-- both are made -/
theorem Pair.made {B : Nat} {w1 w2 : World} {p F t : Nat} {V : Nat → Nat} (h : MS B w1 p F V t) (ht : t < 18446744073709551616)
    (h2 : RM w2 (w1.heap.size + 1) w1.heap.size F (fun _ => 0) 0) (hc : Chg (fun _ => False) w1 w2) : Pair (Old B) w2 p (w1.heap.size + 1) F V t (fun _ => 0) 0 := by
  obtain ⟨o, hm, hB⟩ := h
  have hp := hm.lt
  have hb : B ≤ w1.heap.size := Nat.le_of_lt (Nat.lt_of_le_of_lt (hB p (.inl rfl)) (hp p (.inl rfl)))
  have hs := hc.size
  exact ⟨o, w1.heap.size, ht, by omega, hm.chg hc (fun _ _ h => h), h2, fun k a b => by have := hp k a; omega, fun k a b => by have := hB k a; exact absurd b (Nat.not_lt.2 this), by show ¬ _ < _; omega, by show ¬ _ < _; omega, fun k (a : k < B) => by omega⟩

theorem pl_load {S : Nat → Prop} {w : World} {p r F t u : Nat} {V U : Nat → Nat} (h : Pair S w p r F V t U u) (hF : F ≤ 256) (at_ : Nat) (hw : at_ < 18446744073709551616) (n : Int) :
    Calls Try.prog 37 #[.pointer (some ⟨p, 0, none⟩), .int .u64 at_, .int .i64 n] w (StepP S w p r F V (tc F at_ n t) U u (.tuple #[.int .u64 (ldV F V at_ n : Nat), .int .i64 (cdL F at_ n)])) := by
  obtain ⟨o, g, ht, hu, h1, h2, hd, hB, hr, hg, hS⟩ := h
  exact (m_load w p F t hF ht o V h1 at_ hw n).mono fun _ _ k => Pair.left (tc_lt _ _ _ _ ht) hu h2 hd hB hr hg hS k

theorem pr_load {S : Nat → Prop} {w : World} {p r F t u : Nat} {V U : Nat → Nat} (h : Pair S w p r F V t U u) (hF : F ≤ 256) (at_ : Nat) (hw : at_ < 18446744073709551616) (n : Int) :
    Calls Try.prog 72 #[.pointer (some ⟨r, 0, none⟩), .int .u64 at_, .int .i64 n] w (StepP S w p r F V t U (tc F at_ n u) (.tuple #[.int .u64 (ldV F U at_ n : Nat), .int .i64 (cdL F at_ n)])) := by
  obtain ⟨o, g, ht, hu, h1, h2, hd, hB, hr, hg, hS⟩ := h
  exact (rm_load w r g F u hF hu U h2 at_ hw n).mono fun _ _ k => Pair.right ht (tc_lt _ _ _ _ hu) h1 hd hB hr hg hS k

theorem pl_store {S : Nat → Prop} {w : World} {p r F t u : Nat} {V U : Nat → Nat} (h : Pair S w p r F V t U u) (hF : F ≤ 256) (at_ : Nat) (hw : at_ < 18446744073709551616) (n : Int) (v : Nat) (hv : v < 18446744073709551616) :
    Calls Try.prog 33 #[.pointer (some ⟨p, 0, none⟩), .int .u64 at_, .int .i64 n, .int .u64 v] w (StepP S w p r F (stV F V at_ n v) (tc F at_ n t) U u (.int .i64 (cdL F at_ n))) := by
  obtain ⟨o, g, ht, hu, h1, h2, hd, hB, hr, hg, hS⟩ := h
  exact (m_store w p F t hF ht o V h1 at_ hw n v hv).mono fun _ _ k => Pair.left (tc_lt _ _ _ _ ht) hu h2 hd hB hr hg hS k

theorem pr_store {S : Nat → Prop} {w : World} {p r F t u : Nat} {V U : Nat → Nat} (h : Pair S w p r F V t U u) (hF : F ≤ 256) (at_ : Nat) (hw : at_ < 18446744073709551616) (n : Int) (v : Nat) (hv : v < 18446744073709551616) :
    Calls Try.prog 34 #[.pointer (some ⟨r, 0, none⟩), .int .u64 at_, .int .i64 n, .int .u64 v] w (StepP S w p r F V t (stV F U at_ n v) (tc F at_ n u) (.int .i64 (cdL F at_ n))) := by
  obtain ⟨o, g, ht, hu, h1, h2, hd, hB, hr, hg, hS⟩ := h
  exact (rm_store w r g F u hF hu U h2 at_ hw n v hv).mono fun _ _ k => Pair.right ht (tc_lt _ _ _ _ hu) h1 hd hB hr hg hS k

theorem pl_get {S : Nat → Prop} {w : World} {p r F t u : Nat} {V U : Nat → Nat} (h : Pair S w p r F V t U u) (hF : F ≤ 256) (at_ : Nat) (hw : at_ < 18446744073709551616) (n : Int) (hn : n ≤ 9223372036854775807) :
    Calls Try.prog 19 #[.pointer (some ⟨p, 0, none⟩), .int .u64 at_, .int .i64 n] w (StepP S w p r F V t U u (.tuple #[.string (gtS F V at_ n), .int .i64 (cdG F at_ n)])) := by
  obtain ⟨o, g, ht, hu, h1, h2, hd, hB, hr, hg, hS⟩ := h
  exact (m_get w p F t hF o V h1 at_ hw n hn).mono fun _ _ k => Pair.left ht hu h2 hd hB hr hg hS k

theorem pl_put {S : Nat → Prop} {w : World} {p r F t u : Nat} {V U : Nat → Nat} (h : Pair S w p r F V t U u) (hF : F ≤ 256) (at_ : Nat) (hw : at_ < 18446744073709551616) (s : ByteArray) (hs : s.size ≤ maxLen) :
    Calls Try.prog 60 #[.pointer (some ⟨p, 0, none⟩), .int .u64 at_, .string s] w (StepP S w p r F (ptV F V at_ s) t U u (.int .i64 (cdP F at_ s))) := by
  obtain ⟨o, g, ht, hu, h1, h2, hd, hB, hr, hg, hS⟩ := h
  exact (m_put w p F t hF o V h1 at_ hw s hs).mono fun _ _ k => Pair.left ht hu h2 hd hB hr hg hS k

theorem pr_put {S : Nat → Prop} {w : World} {p r F t u : Nat} {V U : Nat → Nat} (h : Pair S w p r F V t U u) (hF : F ≤ 256) (at_ : Nat) (hw : at_ < 18446744073709551616) (s : ByteArray) (hs : s.size ≤ maxLen) :
    Calls Try.prog 69 #[.pointer (some ⟨r, 0, none⟩), .int .u64 at_, .string s] w (StepP S w p r F V t (ptV F U at_ s) u (.int .i64 (cdP F at_ s))) := by
  obtain ⟨o, g, ht, hu, h1, h2, hd, hB, hr, hg, hS⟩ := h
  exact (rm_put w r g F u hF U h2 at_ hw s hs).mono fun _ _ k => Pair.right ht hu h1 hd hB hr hg hS k

theorem pl_clear {S : Nat → Prop} {w : World} {p r F t u : Nat} {V U : Nat → Nat} (h : Pair S w p r F V t U u) (hF : F ≤ 256) (f : Int) :
    Calls Try.prog 74 #[.pointer (some ⟨p, 0, none⟩), .int .i64 f] w (StepP S w p r F (clV F V f) t U u (.int .i64 (cdF F f))) := by
  obtain ⟨o, g, ht, hu, h1, h2, hd, hB, hr, hg, hS⟩ := h
  exact (m_clear w p F t hF o V h1 f).mono fun _ _ k => Pair.left ht hu h2 hd hB hr hg hS k

theorem pl_copy {S : Nat → Prop} {w : World} {p r F t u : Nat} {V U : Nat → Nat} (h : Pair S w p r F V t U u) (hF : F ≤ 256) (a b : Int) :
    Calls Try.prog 56 #[.pointer (some ⟨p, 0, none⟩), .int .i64 a, .int .i64 b] w (StepP S w p r F (cpV F V a b) t U u (.int .i64 (cdC F a b))) := by
  obtain ⟨o, g, ht, hu, h1, h2, hd, hB, hr, hg, hS⟩ := h
  exact (m_copy w p F t hF o V h1 a b).mono fun _ _ k => Pair.left ht hu h2 hd hB hr hg hS k

theorem pl_frames {S : Nat → Prop} {w : World} {p r F t u : Nat} {V U : Nat → Nat} (h : Pair S w p r F V t U u) :
    Calls Try.prog 35 #[.pointer (some ⟨p, 0, none⟩)] w fun e w' => e = .returned (.int .i64 F) ∧ w = w' := by
  obtain ⟨o, g, ht, hu, h1, h2, hd, hB, hr, hg, hS⟩ := h
  exact phys_frames w p F t o V h1
end Go.Proofs.Ytodjmfmenfncdaa
