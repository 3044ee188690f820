/-
  The document's Load where the program may be: the same space.
-/
import Derived.Test.YtijooajhjcfneaaGreatQPgQPage
import Derived.Test.YtijooajhjcfneaaGreatQPgNeedR
import Derived.Test.YtijooajhjcfneaaGreatQPgLoad3
namespace Go.Proofs.YtijooajhjcfneaaGreat
open Go.RowKit

theorem makeB (W : World) (b : Nat) (h : b ≤ 4096) : (Instr.makeSlice 51 (.int .i64 (b : Nat)) (.int .i64 (b : Nat))).run Tryz.prog W = .ok (.slice (some ⟨W.heap.size, 0, none⟩) b b) (W.alloc (.cells (zeros b) ByT)) := make_bytes W b (by omega)
theorem convBd (W : World) (b : Nat) (h : b ≤ 4096) : (convert 51 9 (.slice (some ⟨W.heap.size, 0, none⟩) b b)).run Tryz.prog (W.alloc (.cells (zeros b) ByT)).drew = .ok (.string (zerosB b)) (W.alloc (.cells (zeros b) ByT)).drew := by
  have hr : Row (W.alloc (.cells (zeros b) ByT)).drew W.heap.size b (fun _ => 0) := by
    obtain ⟨cs, h1, h2⟩ := row_zeros W b
    exact ⟨cs, h1.drew, h2⟩
  rw [row_string _ W.heap.size b (fun _ => 0) hr 0 0 b b (fun _ => rfl) (by omega), memStr_noughts]
theorem LoK.startQ {S : Nat → Prop} {w0 : World} {rq r F : Nat} {s : PS} (h : RQ S w0 rq r F s.Fr s.V) (cs : Array Value) : LoK S w0 cs ((w0.alloc (.cells cs 23)).alloc (.cells hart0 29)) ∧ RQ (S2 S w0) ((w0.alloc (.cells cs 23)).alloc (.cells hart0 29)) rq r F s.Fr s.V := by
  have z := LoZ.start w0 cs
  refine ⟨⟨z.b, z.r, z.c.mono fun _ a => a.elim⟩, h.beside z.c (fun _ a => a.elim) (fun k hk => ?_) (fun k hk => ?_)⟩
  · rcases hk with hk | hk | hk
    · exact .inl hk
    · exact .inr (by omega)
    · exact .inr (by omega)
  · have hz : ((w0.alloc (.cells cs 23)).alloc (.cells hart0 29)).heap.size = w0.heap.size + 2 := by simp
    rw [hz]
    rcases hk with hk | hk | hk
    · have := h.lt k hk; omega
    · omega
    · omega
theorem LoK.cells {S : Nat → Prop} {w0 W : World} {a b c d : Value} (h : LoK S w0 #[a, b, c, d] W) : W.cell? ⟨w0.heap.size, 0, Option.none⟩ = some a ∧ W.cell? ⟨w0.heap.size, 1, Option.none⟩ = some b ∧ W.cell? ⟨w0.heap.size, 2, Option.none⟩ = some c ∧ W.cell? ⟨w0.heap.size, 3, Option.none⟩ = some d :=
  ⟨h.b.cellv 0 _ rfl, h.b.cellv 1 _ rfl, h.b.cellv 2 _ rfl, h.b.cellv 3 _ rfl⟩
theorem LoK.drew {S : Nat → Prop} {w0 W : World} {cs : Array Value} (h : LoK S w0 cs W) : LoK S w0 cs W.drew := h.none (Chg.refl _ _).drew
/-- both at once -/
structure LQ (S : Nat → Prop) (w0 : World) (cs : Array Value) (rq r F : Nat) (s : PS) (W : World) : Prop where
  q : RQ (S2 S w0) W rq r F s.Fr s.V
  l : LoK S w0 cs W
theorem LQ.none {S : Nat → Prop} {w0 W W' : World} {cs : Array Value} {rq r F : Nat} {s : PS} (h : LQ S w0 cs rq r F s W) (c : Chg (fun _ => False) W W') : LQ S w0 cs rq r F s W' := ⟨h.q.nothing c, h.l.none c⟩
theorem LQ.step {S : Nat → Prop} {w0 W W' : World} {cs : Array Value} {rq r F : Nat} {s s' : PS} {v : Value} {e : Ending} (h : LQ S w0 cs rq r F s W) (k : StepQ (S2 S w0) W rq r F s'.Fr s'.V v e W') : LQ S w0 cs rq r F s' W' := ⟨k.2.1, h.l.step k.2.2⟩
theorem ql_1 (k i : Nat) (hi : i = 1 + k) (h : k ≤ 100) : IntKind.i64.wrap ((i : Int) - 1) = (k : Int) ∧ wrap64 ((i : Int) - 1) = (k : Int) := ⟨i64_wrap_eq (by omega) (by omega), by unfold wrap64; omega⟩
theorem ql_2 (k f : Nat) (hf : f = 256 * k) (h : k ≤ 100) : IntKind.i64.wrap (256 * (k : Int)) = (f : Int) ∧ wrap64 (256 * (k : Int)) = (f : Int) := ⟨i64_wrap_eq (by omega) (by omega), by unfold wrap64; omega⟩
theorem ql_3 (k a c : Nat) (hc : c = k - a) (ha : a ≤ k) (h : k ≤ 100) : IntKind.i64.wrap ((k : Int) - (a : Int)) = (c : Int) ∧ wrap64 ((k : Int) - (a : Int)) = (c : Int) := ⟨i64_wrap_eq (by omega) (by omega), by unfold wrap64; omega⟩
theorem ql_4 (f z : Nat) (hz : z = f + 256) (h : f ≤ 100000) : IntKind.i64.wrap ((f : Int) + 256) = (z : Int) ∧ wrap64 ((f : Int) + 256) = (z : Int) := ⟨i64_wrap_eq (by omega) (by omega), by unfold wrap64; omega⟩
theorem ql_5 (y k z : Nat) (hz : z = y + k) (h1 : y ≤ 100000) (h : k ≤ 100000) : IntKind.i64.wrap ((y : Int) + (k : Int)) = (z : Int) ∧ wrap64 ((y : Int) + (k : Int)) = (z : Int) := ⟨i64_wrap_eq (by omega) (by omega), by unfold wrap64; omega⟩
theorem ql_6 (y k z : Nat) (hz : y = z + k) (h1 : y ≤ 1000000) : IntKind.i64.wrap ((y : Int) - (k : Int)) = (z : Int) ∧ wrap64 ((y : Int) - (k : Int)) = (z : Int) := ⟨i64_wrap_eq (by omega) (by omega), by unfold wrap64; omega⟩
theorem nd_s1' (m n : Nat) (hn : n = m + 1) (h : m ≤ 100000) : wrap64 ((m : Int) + 1) = (n : Int) ∧ IntKind.i64.wrap ((m : Int) + 1) = (n : Int) := ⟨by unfold wrap64; omega, i64_wrap_eq (by omega) (by omega)⟩
theorem ql_7 (a d b z : Nat) (hz : z = d + b) (h1 : a ≤ 8) (h2 : d ≤ 1024) (h3 : b ≤ 4096) : IntKind.u64.wrap (IntKind.i64.wrap (IntKind.i64.wrap (256 * IntKind.i64.wrap (1 + (a : Int))) + (z : Int))) = ((256 * (1 + a) + d + b : Nat) : Int) := by
  rw [i64_wrap_eq (y := 1 + (a : Int)) rfl (by omega), i64_wrap_eq (y := 256 * (1 + (a : Int))) rfl (by omega), i64_wrap_eq (y := 256 * (1 + (a : Int)) + (z : Int)) rfl (by omega), show 256 * (1 + (a : Int)) + (z : Int) = ((256 * (1 + a) + d + b : Nat) : Int) from by omega]
  exact u64_wrap_lt _ (by omega)
theorem ql_8 (en pc : Nat) (hp : pc = 256 + en) (h : en < 4096) : IntKind.i64.wrap (256 + (en : Int)) = (pc : Int) ∧ IntKind.u64.wrap (pc : Int) = (pc : Int) ∧ wrap64 (256 + (en : Int)) = (pc : Int) := ⟨i64_wrap_eq (by omega) (by omega), u64_wrap_lt pc (by omega), by unfold wrap64; omega⟩
end Go.Proofs.YtijooajhjcfneaaGreat
