/-
  A memory and the document's, that share nothing, however often touched: each side's contracts hold for both.
-/
import Derived.Test.YtodjmfmenfncdaaRyWalk
import Derived.Test.YtodjmfmenfncdaaPair
namespace Go.Proofs.Ytodjmfmenfncdaa
open Go.RowKit

def PX (S : Nat → Prop) (w : World) (p r F : Nat) (V U : Nat → Nat) : Prop := ∃ t u, Pair S w p r F V t U u
def StepX (S : Nat → Prop) (w : World) (p r F : Nat) (V U : Nat → Nat) (v : Value) (e : Ending) (w' : World) : Prop := e = .returned v ∧ PX S w' p r F V U ∧ Chg (fun k => ¬ S k) w w'
theorem PX.drew {S : Nat → Prop} {w : World} {p r F : Nat} {V U : Nat → Nat} (h : PX S w p r F V U) : PX S w.drew p r F V U := by
  obtain ⟨t, u, h⟩ := h
  exact ⟨t, u, h.drew⟩
theorem PX.lt {S : Nat → Prop} {w : World} {p r F : Nat} {V U : Nat → Nat} (h : PX S w p r F V U) : ∀ k, S k → k < w.heap.size := by
  obtain ⟨t, u, h⟩ := h
  exact h.lt
/-- the program's side alone: the document's blocks are kept -/
theorem PX.L {S : Nat → Prop} {w : World} {p r F : Nat} {V U : Nat → Nat} (h : PX S w p r F V U) :
    ∃ S' : Nat → Prop, (∀ k, S k → S' k) ∧ PY S' w p F V ∧ ∀ w' V', PY S' w' p F V' → Chg (fun k => ¬ S' k) w w' → PX S w' p r F V' U := by
  obtain ⟨t, u, o, g, ht, hu, h1, h2, hd, hB, hr, hg, hS⟩ := h
  have l1 := h2.blk.lt
  have l2 := h2.row.lt
  refine ⟨fun k => S k ∨ k = r ∨ k = g, fun k h => .inl h, ⟨o, t, ht, h1, fun k a b => ?_, fun k a => ?_⟩, fun w' V' hy c => ?_⟩
  · rcases b with b | b
    · exact hB k a b
    · exact hd k a b
  · rcases a with a | rfl | rfl
    · exact hS k a
    · exact l1
    · exact l2
  · obtain ⟨o', t', ht', h1', hB', hS'⟩ := hy
    exact ⟨t', u, o', g, ht', hu, h1', h2.chg c (fun a => a (.inr (.inl rfl))) (fun a => a (.inr (.inr rfl))), fun k a b => hB' k a (.inr b), fun k a b => hB' k a (.inl b), hr, hg, fun k a => hS' k (.inl a)⟩
/-- the document's side alone -/
theorem PX.R {S : Nat → Prop} {w : World} {p r F : Nat} {V U : Nat → Nat} (h : PX S w p r F V U) :
    ∃ S' : Nat → Prop, (∀ k, S k → S' k) ∧ RX S' w r F U ∧ ∀ w' U', RX S' w' r F U' → Chg (fun k => ¬ S' k) w w' → PX S w' p r F V U' := by
  obtain ⟨t, u, o, g, ht, hu, h1, h2, hd, hB, hr, hg, hS⟩ := h
  refine ⟨fun k => S k ∨ MemOwn p o k, fun k h => .inl h, ⟨g, u, hu, h2, fun a => ?_, fun a => ?_, fun k a => ?_⟩, fun w' U' hy c => ?_⟩
  · rcases a with a | a
    · exact hr a
    · exact hd _ a (.inl rfl)
  · rcases a with a | a
    · exact hg a
    · exact hd _ a (.inr rfl)
  · rcases a with a | a
    · exact hS k a
    · exact h1.lt k a
  · obtain ⟨g', u', hu', h2', hr', hg', hS'⟩ := hy
    exact ⟨t, u', o, g', ht, hu', h1.chg c (fun k a b => b (.inr a)), h2', fun k a b => by rcases b with rfl | rfl; exact hr' (.inr a); exact hg' (.inr a), hB, fun a => hr' (.inl a), fun a => hg' (.inl a), fun k a => hS' k (.inl a)⟩
theorem PX.left {S : Nat → Prop} {w : World} {p r F : Nat} {V V' U : Nat → Nat} {P : Program} {f : FuncId} {args : Array Value} {v : Value} (h : PX S w p r F V U) (c : ∀ S', PY S' w p F V → Calls P f args w (StepY S' w p F V' v)) : Calls P f args w (StepX S w p r F V' U v) := by
  obtain ⟨S', hs, hy, back⟩ := h.L
  exact (c S' hy).mono fun _ w' ⟨h1, h2, h3⟩ => ⟨h1, back w' V' h2 h3, h3.mono fun k a b => a (hs k b)⟩
theorem PX.right {S : Nat → Prop} {w : World} {p r F : Nat} {V U U' : Nat → Nat} {P : Program} {f : FuncId} {args : Array Value} {v : Value} (h : PX S w p r F V U) (c : ∀ S', RX S' w r F U → Calls P f args w (StepR S' w r F U' v)) : Calls P f args w (StepX S w p r F V U' v) := by
  obtain ⟨S', hs, hy, back⟩ := h.R
  exact (c S' hy).mono fun _ w' ⟨h1, h2, h3⟩ => ⟨h1, back w' U' h2 h3, h3.mono fun k a b => a (hs k b)⟩

theorem x_wk (S : Nat → Prop) (w : World) (p r F : Nat) (V U : Nat → Nat) (h : PX S w p r F V U) (hF : F ≤ 256) (root : Int) (at_ : Nat) (acc : Int) :
    Calls Try.prog 13 #[.pointer (some ⟨p, 0, none⟩), .int .i64 root, .int .u64 at_, .int .i64 acc] w (StepX S w p r F V U (wkR V F root at_ acc)) := h.left fun S' h => wk_all S' w p F V h hF root at_ acc
theorem x_lf (S : Nat → Prop) (w : World) (p r F : Nat) (V U : Nat → Nat) (h : PX S w p r F V U) (hF : F ≤ 256) (root : Int) (at_ : Nat) :
    Calls Try.prog 14 #[.pointer (some ⟨p, 0, none⟩), .int .i64 root, .int .u64 at_] w (StepX S w p r F V U (lfR V F root at_)) := h.left fun S' h => lf_all S' w p F V h hF root at_
theorem x_rwk (S : Nat → Prop) (w : World) (p r F : Nat) (V U : Nat → Nat) (h : PX S w p r F V U) (hF : F ≤ 256) (root : Int) (at_ : Nat) (acc : Int) :
    Calls Try.prog 18 #[.pointer (some ⟨r, 0, none⟩), .int .i64 root, .int .u64 at_, .int .i64 acc] w (StepX S w p r F V U (wkR U F root at_ acc)) := h.right fun S' h => rwk_all S' w r F U h hF root at_ acc
theorem x_rlf (S : Nat → Prop) (w : World) (p r F : Nat) (V U : Nat → Nat) (h : PX S w p r F V U) (hF : F ≤ 256) (root : Int) (at_ : Nat) :
    Calls Try.prog 17 #[.pointer (some ⟨r, 0, none⟩), .int .i64 root, .int .u64 at_] w (StepX S w p r F V U (lfR U F root at_)) := h.right fun S' h => rlf_all S' w r F U h hF root at_
theorem wwalk_1x (S : Nat → Prop) (w : World) (p r F : Nat) (V U : Nat → Nat) (h : PX S w p r F V U) (hF : F ≤ 256) (root : Nat) (hr : root < F) (at_ : Nat) (ha : at_ < 8388608) :
    Calls Try.prog 13 #[.pointer (some ⟨p, 0, none⟩), .int .i64 root, .int .u64 at_, .int .i64 1] w (StepX S w p r F V U (lfVal (tbWalk V F root at_ 1))) := h.left fun S' h => wwalk_1 S' w p F V h hF root hr at_ ha
theorem wwalk_2x (S : Nat → Prop) (w : World) (p r F : Nat) (V U : Nat → Nat) (h : PX S w p r F V U) (hF : F ≤ 256) (root : Nat) (hr : root < F) (at_ : Nat) (ha : at_ < 8388608) :
    Calls Try.prog 13 #[.pointer (some ⟨p, 0, none⟩), .int .i64 root, .int .u64 at_, .int .i64 2] w (StepX S w p r F V U (lfVal (tbWalk V F root at_ 2))) := h.left fun S' h => wwalk_2 S' w p F V h hF root hr at_ ha
theorem walk_leafx (S : Nat → Prop) (w : World) (p r F : Nat) (V U : Nat → Nat) (h : PX S w p r F V U) (hF : F ≤ 256) (root : Nat) (hr : root < F) (at_ : Nat) (ha : at_ < 8388608) :
    Calls Try.prog 14 #[.pointer (some ⟨p, 0, none⟩), .int .i64 root, .int .u64 at_] w (StepX S w p r F V U (lfVal (tbLeaf V F root at_))) := h.left fun S' h => walk_leaf S' w p F V h hF root hr at_ ha
theorem x_getm {S : Nat → Prop} {w : World} {p r F : Nat} {V U : Nat → Nat} (h : PX S w p r F V U) (hF : F ≤ 256) (a : Nat) (ha : a < 18446744073709551616) (n : Int) (hn : n ≤ 9223372036854775807) (x : Int) (hx : x = (a : Int)) :
    Calls Try.prog 19 #[.pointer (some ⟨p, 0, none⟩), .int .u64 x, .int .i64 n] w (StepX S w p r F V U (.tuple #[.string (gtS F V a n), .int .i64 (cdG F a n)])) := h.left fun S' h => py_get h hF a ha n hn x hx
theorem PX.fields {S : Nat → Prop} {w : World} {p r F : Nat} {V U : Nat → Nat} (h : PX S w p r F V U) :
    ∃ g, w.cell? ⟨r, 0, none⟩ = some (.slice (some ⟨g, 0, none⟩) (F * 256) (F * 256)) ∧ ∀ cap, (convert 51 9 (.slice (some ⟨g, 0, none⟩) (F * 256) cap)).run Try.prog w = .ok (.string (memStr U 0 (F * 256))) w := by
  obtain ⟨t, u, h⟩ := h
  obtain ⟨g, a, _, b⟩ := h.fields
  exact ⟨g, a, b⟩
end Go.Proofs.Ytodjmfmenfncdaa
