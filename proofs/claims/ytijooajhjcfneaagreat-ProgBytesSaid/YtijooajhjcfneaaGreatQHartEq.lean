/-
  A hart is the same as itself.
-/
import Derived.Test.YtijooajhjcfneaaGreatQBigS
import Derived.Laws.StructEq
namespace Go.Proofs.YtijooajhjcfneaaGreat
open Go.RowKit

theorem run_part_one {P : Program} (w : World) (t : TypeId) (k : IntKind) (cs : Array Value) (i : Nat) (v : Value) (ht : P.underlying t = some (.int k)) (hv : cs[i]? = some v) : (part t cs i).run P w = .ok v w := by
  have h : (isAgg t).run P w = .ok false w := by
    unfold isAgg
    rw [Sem.run_bind, run_underlying ht w]
    rfl
  unfold part
  simp [Sem.run_bind, h, Result.andThen, hv]
theorem run_equalIn_arr {P : Program} (w : World) (d : Nat) (t e : TypeId) (n : Nat) (k : IntKind) (cs : Array Value) (ht : P.underlying t = some (.array n e)) (he : P.underlying e = some (.int k)) (hs : (P.info? e).map (·.size) = some 1) (hc : ∀ i, i < n → ∃ x, cs[i]? = some (.int k x)) :
    (Op.equalIn (d + 2) t (.agg cs) (.agg cs)).run P w = .ok true w := by
  have hz : (sizeOf e).run P w = .ok 1 w := by
    cases hq : P.info? e with
    | none => simp [hq] at hs
    | some i =>
      have : i.size = 1 := by simpa [hq] using hs
      simp [sizeOf, typeInfo, hq, this]
  rw [Op.equalIn]
  simp only [Sem.run_bind, run_underlying ht, Result.andThen_ok, hz, Std.Legacy.Range.forIn_eq_forIn_range', Std.Legacy.Range.size]
  have key : ∀ l : List Nat, (∀ i ∈ l, i < n) → (forIn (m := Sem) l ((none : Option Bool), ()) fun i _ => do
      let a ← part e cs (i * 1)
      let b ← part e cs (i * 1)
      let r ← Op.equalIn (d + 1) e a b
      if (!r) = true then pure (ForInStep.done (some false, ())) else pure (ForInStep.yield (none, ()))).run P w = .ok (none, ()) w := by
    intro l
    induction l with
    | nil => intro _; rfl
    | cons i l ih =>
      intro hl
      obtain ⟨x, hx⟩ := hc i (hl i (List.mem_cons_self))
      have h1 := run_part_one w e k cs i _ he hx
      have h2 := run_equalIn_int (P := P) w d e k k x x he
      rw [List.forIn_cons]
      simp only [Nat.mul_one, Sem.run_bind, h1, Result.andThen_ok, h2, beq_self_eq_true, Bool.not_true, Bool.false_eq_true, if_false, Sem.run_pure]
      have := ih (fun j hj => hl j (List.mem_cons_of_mem _ hj))
      simp only [Nat.mul_one] at this
      exact this
  rw [key _ (fun i hi => by have := List.mem_range'_1.1 hi; omega)]
  rfl
theorem run_part_row {P : Program} (w : World) (t e : TypeId) (n : Nat) (cs : Array Value) (ht : P.underlying t = some (.array n e)) (hs : (P.info? t).map (·.size) = some n) : (part t cs 0).run P w = .ok (.agg (cs.extract 0 n)) w := by
  have h : (isAgg t).run P w = .ok true w := by
    unfold isAgg
    rw [Sem.run_bind, run_underlying ht w]
    rfl
  cases hq : P.info? t with
  | none => simp [hq] at hs
  | some i =>
    have hz : i.size = n := by simpa [hq] using hs
    unfold part
    simp [Sem.run_bind, h, Result.andThen, sizeOf, typeInfo, hq, hz]
theorem run_part_bool {P : Program} (w : World) (t : TypeId) (cs : Array Value) (i : Nat) (v : Value) (ht : P.underlying t = some .bool) (hv : cs[i]? = some v) : (part t cs i).run P w = .ok v w := by
  have h : (isAgg t).run P w = .ok false w := by
    unfold isAgg
    rw [Sem.run_bind, run_underlying ht w]
    rfl
  unfold part
  simp [Sem.run_bind, h, Result.andThen, hv]
/-- cells that are a hart's -/
structure HartCs (cs : Array Value) : Prop where
  x : ∀ i, i < 32 → ∃ x, cs[i]? = some (.int .u64 x)
  pc : ∃ x, cs[32]? = some (.int .u64 x)
  held : ∃ b, cs[33]? = some (.bool b)
  at_ : ∃ x, cs[34]? = some (.int .u64 x)
set_option maxRecDepth 100000 in
theorem equalIn_hart (w : World) (d : Nat) (cs : Array Value) (h : HartCs cs) : (Op.equalIn (d + 3) 29 (.agg cs) (.agg cs)).run Tryz.prog w = .ok true w := by
  obtain ⟨hx, ⟨pc, hpc⟩, ⟨b, hb⟩, ⟨a, ha⟩⟩ := h
  have hu := Tryz.underlying29
  have hf : (Tryz.prog.fieldsOf 29) = match Tryz.prog.underlying 29 with | some (.struct fs) => fs | _ => #[] := rfl
  rw [hu] at hf
  simp only at hf
  rw [run_equalIn_struct w (d + 2) _ cs cs (by rw [hf]; exact hu) (by kernel_rfl), hf]
  simp only [Op.eqFields]
  have e1 := run_part_row w 27 26 32 cs Tryz.underlying27 (by kernel_rfl)
  have e2 := run_equalIn_arr w d 27 26 32 .u64 (cs.extract 0 32) Tryz.underlying27 Tryz.underlying26 (by as_aux_lemma => kernel_rfl) (fun i hi => by
    obtain ⟨x, e⟩ := hx i hi
    have hlt := (Array.getElem?_eq_some_iff.1 e).1
    exact ⟨x, by rw [Array.getElem?_extract, if_pos (by omega), Nat.zero_add]; exact e⟩)
  have e3 := run_part_one w 26 .u64 cs 32 _ Tryz.underlying26 hpc
  have e4 := run_part_bool w 4 cs 33 _ Tryz.underlying4 hb
  have e5 := run_part_one w 26 .u64 cs 34 _ Tryz.underlying26 ha
  have q3 := run_equalIn_int (P := Tryz.prog) w (d + 1) 26 .u64 .u64 pc pc Tryz.underlying26
  have q4 := run_equalIn_bool (P := Tryz.prog) w (d + 1) 4 b b Tryz.underlying4
  have q5 := run_equalIn_int (P := Tryz.prog) w (d + 1) 26 .u64 .u64 a a Tryz.underlying26
  simp [Sem.run_bind, e1, e2, e3, e4, e5, q3, q4, q5, Result.andThen]
set_option maxRecDepth 100000 in
theorem eql_hart (w : World) (cs : Array Value) (h : HartCs cs) : (binOp .eql 29 (.agg cs) (.agg cs)).run Tryz.prog w = .ok (.bool true) w := by
  obtain ⟨d, hd⟩ : ∃ d, 10000 = d + 3 := ⟨9997, by decide⟩
  rw [run_eql_struct, hd, equalIn_hart w d cs h]
  rfl
set_option maxRecDepth 100000 in
theorem neq_hart (w : World) (cs : Array Value) (h : HartCs cs) : (binOp .neq 29 (.agg cs) (.agg cs)).run Tryz.prog w = .ok (.bool false) w := by
  obtain ⟨d, hd⟩ : ∃ d, 10000 = d + 3 := ⟨9997, by decide⟩
  rw [run_neq_struct, hd, equalIn_hart w d cs h]
  rfl
/-- a row read whole, in an operation that is wanted -/
theorem wpList_load_rowG {P : Program} {ops : Array Oper} {rest : List Oper} {o : Oper} {a : Act} {w : World} {Q : Exit → Act → World → Prop} (hw : Region.wanted o (yielded ops a.tmps) = true) (ty : TypeId) (x : Operand) (ho : o.op = .load ty x)
    (g : Nat) (hx : a.eval x = .pointer (some ⟨g, 0, none⟩)) (t : TypeId) (cs : Array Value) (d : TypeDesc) (hg : Blk w g cs t)
    (hu : P.underlying ty = some d) (hd : (match d with | .struct _ | .array _ _ => true | _ => false) = true) (hi : (P.info? ty).map (·.size) = some cs.size)
    (h : wpList P ops Q rest (a.put o.dst (.agg cs)) w) : wpList P ops Q (o :: rest) a w := by
  unfold wpList
  rw [if_pos hw]
  exact .inl (wp_load_row ty x ho g hx t cs (0, 0) d hg hu hd hi h)
theorem wp_eqlG {P : Program} {o : Oper} {a : Act} {w : World} {K : Act → World → Prop} {Q : Exit → Act → World → Prop} (op : BinOp) (ty t2 : TypeId) (x y : Operand) (ho : o.op = .binOp op ty x y t2) (cs : Array Value) (b : Bool)
    (hx : a.eval x = .agg cs) (hy : a.eval y = .agg cs) (hm : P.eqGuardType P.depth ty = false) (hr : (binOp op ty (.agg cs) (.agg cs)).run P w = .ok (.bool b) w)
    (hop : op = .eql ∨ op = .neq) (h : K (a.put o.dst (.bool b)) w) : o.wp P a w K Q := by
  unfold Oper.wp execOp
  rcases hop with rfl | rfl
  · simp only [ho, hx, hy, Sem.run_bind, run_eqGuard_agg w .eql ty x y cs cs hm, Result.andThen_ok, hr, Sem.run_pure]
    exact h
  · simp only [ho, hx, hy, Sem.run_bind, run_eqGuard_agg w .neq ty x y cs cs hm, Result.andThen_ok, hr, Sem.run_pure]
    exact h
theorem wpList_eqlG {P : Program} {ops : Array Oper} {rest : List Oper} {o : Oper} {a : Act} {w : World} {Q : Exit → Act → World → Prop} (hw : Region.wanted o (yielded ops a.tmps) = true) (op : BinOp) (ty t2 : TypeId) (x y : Operand) (ho : o.op = .binOp op ty x y t2) (cs : Array Value) (b : Bool)
    (hx : a.eval x = .agg cs) (hy : a.eval y = .agg cs) (hm : P.eqGuardType P.depth ty = false) (hr : (binOp op ty (.agg cs) (.agg cs)).run P w = .ok (.bool b) w)
    (hop : op = .eql ∨ op = .neq) (h : wpList P ops Q rest (a.put o.dst (.bool b)) w) : wpList P ops Q (o :: rest) a w := by
  unfold wpList
  rw [if_pos hw]
  exact .inl (wp_eqlG op ty t2 x y ho cs b hx hy hm hr hop h)
theorem hart_guard : Tryz.prog.eqGuardType Tryz.prog.depth 29 = false := by kernel_rfl
end Go.Proofs.YtijooajhjcfneaaGreat
