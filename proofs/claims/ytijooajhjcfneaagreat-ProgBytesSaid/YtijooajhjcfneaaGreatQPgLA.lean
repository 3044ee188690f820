/-
  Load where the program may be.
-/
import Derived.Test.YtijooajhjcfneaaGreatQPgLoad
import Derived.Great.BuildSlice
import Derived.StillTailTactics
namespace Go.Proofs.YtijooajhjcfneaaGreat
open Go.RowKit

/-- the registers of a hart but for its stack -/
def hartZ (pc : Nat) : Array Value := #[.int .u64 0, .int .u64 0, .int .u64 0, .int .u64 0, .int .u64 0, .int .u64 0, .int .u64 0, .int .u64 0, .int .u64 0, .int .u64 0, .int .u64 0, .int .u64 0, .int .u64 0, .int .u64 0, .int .u64 0, .int .u64 0, .int .u64 0, .int .u64 0, .int .u64 0, .int .u64 0, .int .u64 0, .int .u64 0, .int .u64 0, .int .u64 0, .int .u64 0, .int .u64 0, .int .u64 0, .int .u64 0, .int .u64 0, .int .u64 0, .int .u64 0, .int .u64 0, .int .u64 pc, .bool false, .int .u64 0]
theorem hartZ_set (pc : Nat) : (hartZ pc).setIfInBounds 2 (.int .u64 16384) = hartC pc := rfl
/-- a row stored whole into the block made last -/
theorem setRow_alloc (W : World) (old cs : Array Value) (t : TypeId) : (W.alloc (.cells old t)).setRow W.heap.size cs = W.alloc (.cells cs t) := by
  unfold World.setRow World.alloc
  congr 1
  simp only
  apply Array.ext
  · simp
  · intro i h1 h2
    simp only [Array.getElem_modify, Array.getElem_push]
    simp only [Array.size_modify, Array.size_push] at h1
    split
    · next h => subst h; simp
    · next h => rw [dif_pos (by omega), dif_pos (by omega)]
theorem alloc_at (W : World) (o : Obj) : (W.alloc o).heap[W.heap.size]? = some o := by
  show (W.heap.push o)[W.heap.size]? = some o
  simp
theorem wpList_store_fresh {P : Program} {ops : Array Oper} {rest : List Oper} {o : Oper} {a : Act} {W : World} {Q : Exit → Act → World → Prop} {old : Array Value} {t : TypeId} (hgd : o.guard = none) (ty : TypeId) (x y : Operand) (ho : o.op = .store ty x y)
    (cells : Array Value) (hx : a.eval x = .pointer (some ⟨W.heap.size, 0, none⟩)) (hy : a.eval y = .agg cells)
    (hi : (P.info? ty).map (·.size) = some cells.size) (hold : old.size = cells.size) (h1 : cells.all (·.oneCell') = true)
    (h : wpList P ops Q rest (a.put o.dst undef) (W.alloc (.cells cells t))) : wpList P ops Q (o :: rest) a (W.alloc (.cells old t)) :=
  wpList_store_row hgd ty x y ho W.heap.size cells hx hy t old (alloc_at W _) hi hold h1 (by rw [setRow_alloc]; exact h)
theorem ld_n3 (a d b : Nat) (h1 : a ≤ 8) (h2 : d ≤ 1024) (h3 : b ≤ 4096) : IntKind.u64.wrap (IntKind.i64.wrap (IntKind.i64.wrap (IntKind.i64.wrap ((1 + (a : Int)) * 256) + (d : Int)) + (b : Int))) = ((256 * (1 + a) + d + b : Nat) : Int) := by
  rw [i64_wrap_eq (y := (1 + (a : Int)) * 256) rfl (by omega), i64_wrap_eq (y := (1 + (a : Int)) * 256 + (d : Int)) rfl (by omega), i64_wrap_eq (y := (1 + (a : Int)) * 256 + (d : Int) + (b : Int)) rfl (by omega), show (1 + (a : Int)) * 256 + (d : Int) + (b : Int) = ((256 * (1 + a) + d + b : Nat) : Int) from by omega]
  exact u64_wrap_lt _ (by omega)
/-- four results, of which the second is a row that lies in a block -/
theorem results_tctt {P : Program} {fn : Func} {x p y z : Tmp} {ty : TypeId} (h : fn.results = #[.tmp x, .cell p ty, .tmp y, .tmp z]) (tmps : Array Value) (w : World) (g : Nat) (t : TypeId) (cs : Array Value) (d : TypeDesc)
    (hp : tmps.getD p undef = .pointer (some ⟨g, 0, none⟩)) (hg : w.heap[g]? = some (.cells cs t (0, 0)))
    (hu : P.underlying ty = some d) (hd : (match d with | .struct _ | .array _ _ => true | _ => false) = true) (hi : (P.info? ty).map (·.size) = some cs.size) :
    (results fn tmps).run P w = .ok (.tuple #[tmps.getD x undef, .agg cs, tmps.getD y undef, tmps.getD z undef]) w := by
  have hp' : tmps[p]?.getD undef = .pointer (some ⟨g, 0, none⟩) := by simpa using hp
  simp [results, h, hp', asAddr, run_loadVar_row w g t ty cs (0, 0) d hg hu hd hi, Sem.run_bind, Result.andThen]
end Go.Proofs.YtijooajhjcfneaaGreat
