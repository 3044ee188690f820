/-
  Several texts in one: SpBuild, SpBuild2, SpIn, SpIn2, SpGood.
-/
import Derived.Test.YtijooajhjcfneaaGreatG11
import Derived.Test.YtijooajhjcfneaaGreatShelf
import Derived.Lib.AppendStr
import Derived.Lib.UnsafeStr
namespace Go.Proofs.YtijooajhjcfneaaGreat
open Go.RowKit

theorem Tryz.sizeBuilder : (Tryz.prog.info? 110).map (·.size) = some 2 := by kernel_rfl
theorem Tryz.liesBuilder : liesAt Tryz.prog Tryz.prog.depth 110 (2 / Tryz.prog.cellsOf 110) 0 110 1 = true := by kernel_rfl
theorem Tryz.infoByte8 : (Tryz.prog.info? 5).map (fun i => (i.zero, i.size, i.bytes)) = some (some (.int .u8 0), 1, 1) := by kernel_rfl
/-- a builder with its buffer -/
structure BK (B b : Nat) (p v : Value) (bs : List Value) (w : World) : Prop where
  le : B ≤ b
  blk : w.heap[b]? = some (.cells #[p, v] 110 (0, 0))
  own : w.ownsRow B 5 1 v bs.length bs
  ne : v.ownBlock ≠ some b
  addr : p = .pointer none ∨ p = .pointer (some ⟨b, 0, none⟩)
theorem BK.cell0 {B b : Nat} {p v : Value} {bs : List Value} {w : World} (h : BK B b p v bs w) : w.cell? ⟨b, 0, none⟩ = some p := by rw [Lib.cell_of_heap h.blk]; rfl
theorem BK.cell1 {B b : Nat} {p v : Value} {bs : List Value} {w : World} (h : BK B b p v bs w) : w.cell? ⟨b, 1, none⟩ = some v := by rw [Lib.cell_of_heap h.blk]; rfl
theorem BK.lt {B b : Nat} {p v : Value} {bs : List Value} {w : World} (h : BK B b p v bs w) : b < w.heap.size := by
  rcases Nat.lt_or_ge b w.heap.size with h' | h'
  · exact h'
  · have := h.blk
    simp [Array.getElem?_eq_none h'] at this
theorem BK.new (B : Nat) (w : World) (hB : B ≤ w.heap.size) : BK B w.heap.size (.pointer none) (.slice none 0 0) [] (w.alloc (.cells #[.pointer none, .slice none 0 0] 110)) :=
  ⟨hB, heap_alloc_new w _, World.ownsRow_nil _ _ _ _, (fun h => by cases h), .inl rfl⟩
theorem BK.is {B b : Nat} {p v : Value} {bs : List Value} {w : World} (h : BK B b p v bs w) : Lib.IsBuilder 110 5 B b bs w := by
  rcases h.addr with e | e
  · exact .inl ⟨h.le, v, by rw [← e]; exact h.blk, h.own, h.ne⟩
  · exact .inr ⟨h.le, v, by rw [← e]; exact h.blk, h.own, h.ne⟩
theorem BK.chg {B b : Nat} {p v : Value} {bs : List Value} {w w' : World} {S : Nat → Prop} (h : BK B b p v bs w) (c : Chg S w w') (hb : ¬ S b) (hv : ∀ k, v.ownBlock = some k → ¬ S k) : BK B b p v bs w' :=
  ⟨h.le, (c.block b h.lt hb).trans h.blk, ownsRow_chg h.own c hv, h.ne, h.addr⟩

set_option maxHeartbeats 1000000 in
set_option maxRecDepth 100000 in
theorem b_check_used (b : Nat) (w : World) (h0 : w.cell? ⟨b, 0, none⟩ = some (.pointer (some ⟨b, 0, none⟩))) :
    Calls Tryz.prog 73 #[.pointer (some ⟨b, 0, none⟩)] w fun e w' => e = .returned (.tuple #[]) ∧ w' = w := by
  obtain ⟨j, hj, _⟩ := Option.map_eq_some_iff.1 Tryz.sizeBuilder
  go_enter Tryz.func73, Tryz.ntmps73
  go_wp2_with fail
  rw [Lib.run_neq_ptr_same w _ Tryz.underlying108 hj]
  go_wp2_with fail
  go_end0
  exact ⟨rfl, rfl⟩
set_option maxHeartbeats 1000000 in
set_option maxRecDepth 100000 in
theorem b_check_fresh (b : Nat) (w : World) (h0 : w.cell? ⟨b, 0, none⟩ = some (.pointer none)) (hsh : w.shape? b = some (110, 2)) (hfz : w.frozen? ⟨b, 0, none⟩ = false) :
    Calls Tryz.prog 73 #[.pointer (some ⟨b, 0, none⟩)] w fun e w' => e = .returned (.tuple #[]) ∧ w' = w.setCell ⟨b, 0, none⟩ (.pointer (some ⟨b, 0, none⟩)) := by
  obtain ⟨j, hj, hjs⟩ := Option.map_eq_some_iff.1 Tryz.sizeBuilder
  go_enter Tryz.func73, Tryz.ntmps73
  go_wp2_with fail
  rw [Lib.run_to_unsafe w ⟨b, 0, none⟩ Tryz.underlying108 Tryz.underlying159 hj (by rw [hjs]; decide) hsh (Nat.zero_lt_succ 1)]
  simp only [Result.andThen]
  rw [Oper.upon_value]
  go_wp2_with fail
  rw [run_callFunc_extern Tryz.func95 (by kernel_rfl) (by kernel_rfl) (by kernel_rfl) (e := Extern.AbiNoEscape.same) (by kernel_rfl)]
  rw [Lib.run_noEscape]
  simp only [Result.andThen]
  rw [Oper.upon_value]
  go_wp2_with fail
  rw [Lib.run_from_unsafe w ⟨b, 0, none⟩ Tryz.underlying159 Tryz.underlying108 hj hsh Tryz.liesBuilder]
  simp only [Result.andThen]
  rw [Oper.upon_value]
  go_wp2_with fail
  go_end0
  exact ⟨rfl, rfl⟩
theorem blk_heap {w : World} {b : Nat} {cs : Array Value} {T : TypeId} (h : Blk w b cs T) : w.heap[b]? = some (.cells cs T (0, 0)) := h
theorem b_check {B b : Nat} {p v : Value} {bs : List Value} {w : World} (h : BK B b p v bs w) :
    Calls Tryz.prog 73 #[.pointer (some ⟨b, 0, none⟩)] w fun e w' => e = .returned (.tuple #[]) ∧ BK B b (.pointer (some ⟨b, 0, none⟩)) v bs w' ∧ Chg (fun k => k = b) w w' := by
  rcases h.addr with e | e
  · have hB : Lib.BuilderAt 110 5 B b (.pointer none) bs w := ⟨h.le, v, by rw [← e]; exact h.blk, h.own, h.ne⟩
    refine (b_check_fresh b w hB.cell0 hB.shape hB.frozen0).mono ?_
    rintro r w' ⟨rfl, rfl⟩
    have c : Chg (fun k => k = b) w (w.setCell ⟨b, 0, none⟩ (.pointer (some ⟨b, 0, none⟩))) := (Chg.refl _ w).setCell _ _ (.inl rfl)
    have hbk : Blk w b #[p, v] 110 := h.blk
    refine ⟨rfl, ⟨h.le, ?_, ownsRow_chg h.own c (fun k hk e => h.ne (e ▸ hk)), h.ne, .inr rfl⟩, c⟩
    exact blk_heap (show Blk _ b #[.pointer (some ⟨b, 0, none⟩), v] 110 from by simpa using hbk.set 0 (.pointer (some ⟨b, 0, none⟩)))
  · refine (b_check_used b w (by rw [h.cell0, e])).mono ?_
    rintro r w' ⟨rfl, rfl⟩
    exact ⟨rfl, e ▸ h, Chg.refl _ _⟩

theorem own_string_at {P : Program} {w : World} (base : Nat) (t u ty e : TypeId) (i : TypeInfo) (ht : P.underlying t = some (.slice e)) (hu : P.underlying u = some .string) (hi : P.info? e = some i) (hz : i.zero = some (.int .u8 0))
    (hsize : i.size = 1) (hby : i.bytes = 1) (v : Value) (n : Nat) (xs : List Value) (hown : w.ownsRow base e 1 v n xs) (s : ByteArray)
    (h63 : n + s.size ≤ maxLen) (hbytes : n + s.size ≤ 140737488355328) (hbase : base ≤ w.heap.size) :
    ∃ v' w', (Builtin.append_ #[t, u] ty #[v, .string s]).run P w = .ok v' w' ∧ w'.ownsRow base e 1 v' (n + s.size) (xs ++ Lib.strCells s) ∧ w.grownBy w' v.ownBlock ∧ (v'.ownBlock = v.ownBlock ∨ v'.ownBlock = some w.heap.size) := by
  obtain ⟨v', w', hr, h1, h2, h3⟩ := Lib.run_append_own_string (P := P) w base t u ty e i ht hu hi hz hsize hby v n xs hown s h63 hbytes hbase
  refine ⟨v', w', hr, h1, h2, ?_⟩
  have hxl : xs.length = n := by simpa using hown.1
  rcases hown.2 with ⟨rfl, rfl⟩ | ⟨g, cap, cur, rfl, hbg, hg, hnc, hcm, hcs, htake⟩
  · by_cases hm : s.size = 0
    · rw [h3.2 ⟨rfl, hm⟩]; exact .inl rfl
    · have hr2 := run_append_nil_string (P := P) w t u ty e i (.int .u8 0) ht hu hi hz s (by omega) (by omega) (by rw [hby]; omega)
      rw [hr] at hr2
      cases hr2
      exact .inr rfl
  · by_cases hroom : n + s.size ≤ cap
    · have hr2 := Lib.run_append_room_string (P := P) w t u ty e i ht hu hi hsize g n cap cur hg s hroom (by omega)
      rw [hr] at hr2
      cases hr2
      exact .inl rfl
    · have holds : ∀ j u, xs[j]? = some u → w.cell? ((⟨g, 0, none⟩ : Addr).add j) = some u := hown.cells (g := g) rfl
      have hr2 := Lib.run_append_grow_string (P := P) w t u ty e i (.int .u8 0) ht hu hi hz ⟨g, 0, none⟩ n cap xs (by rw [hsize]; simpa using hxl) holds s (by omega) (by unfold maxLen at h63; omega) (by rw [hby]; exact growslice_fits (by omega) (by omega))
      rw [hr] at hr2
      cases hr2
      exact .inr rfl
theorem wp_own_string_at {P : Program} {w : World} {ops : Array Oper} {rest : List Oper} {o : Oper} {a : Act} {Q : Exit → Act → World → Prop} (hgd : o.guard = none) (sl x : Operand) (t u : TypeId)
    (ho : o.op = .call { callee := .builtin .append, args := #[sl, x], argTypes := #[t, u] })
    (base : Nat) (e : TypeId) (i : TypeInfo) (ht : P.underlying t = some (.slice e)) (hu : P.underlying u = some .string) (hi : P.info? e = some i) (hz : i.zero = some (.int .u8 0))
    (hsize : i.size = 1) (hby : i.bytes = 1) (v : Value) (n : Nat) (xs : List Value) (hs : a.eval sl = v) (hown : w.ownsRow base e 1 v n xs) (s : ByteArray) (hx : a.eval x = .string s)
    (h63 : n + s.size ≤ maxLen) (hbytes : n + s.size ≤ 140737488355328) (hbase : base ≤ w.heap.size)
    (h : ∀ v' w', w'.ownsRow base e 1 v' (n + s.size) (xs ++ Lib.strCells s) → w.grownBy w' v.ownBlock → (v'.ownBlock = v.ownBlock ∨ v'.ownBlock = some w.heap.size) → wpList P ops Q rest (a.put o.dst v') w') : wpList P ops Q (o :: rest) a w := by
  refine wpList_plain hgd fun K hK => ?_
  obtain ⟨v', w', hr, h2, h3, h4⟩ := own_string_at (P := P) base t u o.type e i ht hu hi hz hsize hby v n xs hown s h63 hbytes hbase
  unfold Oper.wp execOp
  simp only [ho, resolve, invoke, builtin, Sem.run_bind, Sem.run_pure, Result.andThen_ok, List.map_toArray, List.map_cons, List.map_nil, hs, hx, hr]
  exact hK _ _ (h v' w' h2 h3 h4)
set_option maxHeartbeats 2000000 in
set_option maxRecDepth 100000 in
theorem b_write {B b : Nat} {p v : Value} {bs : List Value} {w : World} (h : BK B b p v bs w) (s : ByteArray) (hlen : bs.length + s.size ≤ 140737488355328) (hBw : B ≤ w.heap.size) :
    Calls Tryz.prog 42 #[.pointer (some ⟨b, 0, none⟩), .string s] w fun e w' => e = .returned (.tuple #[.int .i64 s.size, .nilIface]) ∧ ∃ v', BK B b (.pointer (some ⟨b, 0, none⟩)) v' (bs ++ Lib.strCells s) w' ∧ Chg (fun k => k = b ∨ v.ownBlock = some k) w w' ∧ (v'.ownBlock = v.ownBlock ∨ ∀ k, v'.ownBlock = some k → w.heap.size ≤ k) := by
  obtain ⟨i0, hi, hz0, hz1, hz2⟩ := info_parts Tryz.infoByte8
  have KC := Lib.hid (b_check h)
  have hbl := h.lt
  clear h
  go_enter Tryz.func42, Tryz.ntmps42
  go_wp2_with fail
  refine KC.out.mono ?_
  rintro e w1 ⟨rfl, h1, hc1⟩
  have c0 := h1.cell0
  have c1 := h1.cell1
  have hown := h1.own
  go_wp2_with (at_builtin; refine wp_own_string_at rfl _ _ 51 9 rfl B 5 i0 Tryz.underlying51 Tryz.underlying9 hi hz0 hz1 hz2 _ _ _ rfl hown s rfl ?c3 ?c4 ?c5 ?_)
  case c3 => unfold maxLen; omega
  case c4 => omega
  case c5 => have := hc1.size; omega
  intro v' w2 hown' hgrow hat
  have hc2 : Chg (fun k => v.ownBlock = some k) w1 w2 := (Chg.refl _ w1).grown hgrow (fun k hk => .inl hk)
  have hb2 : w2.heap[b]? = some (.cells #[.pointer (some ⟨b, 0, none⟩), v] 110 (0, 0)) := (hc2.block b h1.lt h1.ne).trans h1.blk
  have d0 : w2.cell? ⟨b, 0, none⟩ = some (.pointer (some ⟨b, 0, none⟩)) := by rw [Lib.cell_of_heap hb2]; rfl
  have d1 : w2.cell? ⟨b, 1, none⟩ = some v := by rw [Lib.cell_of_heap hb2]; rfl
  have f1 : w2.frozen? ⟨b, 1, none⟩ = false := Lib.frozen_of_heap hb2 1
  have hne : v'.ownBlock ≠ some b := by
    rcases hat with e | e
    · rw [e]; exact h1.ne
    · rw [e]; intro e2; have e3 := Option.some.inj e2; have := h1.lt; omega
  have FIN := Lib.hid (show BK B b (.pointer (some ⟨b, 0, none⟩)) v' (bs ++ Lib.strCells s) (w2.setCell ⟨b, 1, none⟩ v') ∧ Chg (fun k => k = b ∨ v.ownBlock = some k) w (w2.setCell ⟨b, 1, none⟩ v') ∧ (v'.ownBlock = v.ownBlock ∨ ∀ k, v'.ownBlock = some k → w.heap.size ≤ k) from by
    have hbk : Blk w2 b #[.pointer (some ⟨b, 0, none⟩), v] 110 := hb2
    have hcs : Chg (fun k => k = b) w2 (w2.setCell ⟨b, 1, none⟩ v') := (Chg.refl _ w2).setCell _ _ (.inl rfl)
    refine ⟨⟨h1.le, ?_, ?_, hne, .inr rfl⟩, ((hc1.mono (fun k a => .inl a)).trans (hc2.mono (fun k a => .inr a))).trans (hcs.mono (fun k a => .inl a)), ?_⟩
    · exact blk_heap (show Blk _ b #[.pointer (some ⟨b, 0, none⟩), v'] 110 from by simpa using hbk.set 1 v')
    · rw [List.length_append, Lib.strCells_length]
      exact ownsRow_chg hown' hcs (fun k hk e => hne (e ▸ hk))
    · refine hat.imp id fun e k hk => ?_
      rw [e] at hk
      cases hk
      exact hc1.size)
  have hv' : ∃ ao n' cap, v' = .slice ao n' cap := by
    rcases hown'.2 with ⟨hv, _⟩ | ⟨g, cap, cur, hv, _⟩
    · exact ⟨_, _, _, hv⟩
    · exact ⟨_, _, _, hv⟩
  obtain ⟨ao, n', cap, rfl⟩ := hv'
  clear hown' hgrow hat hown h1 hc1 hc2 hb2 hne
  go_wp2_with fail
  go_ret2
  exact ⟨rfl, _, FIN.out⟩
end Go.Proofs.YtijooajhjcfneaaGreat

namespace Go.Proofs.YtijooajhjcfneaaGreat
open Go.RowKit

theorem Tryz.cellsByte : Tryz.prog.cellsOf 5 = 1 := by kernel_rfl
theorem Chg.freeze {S : Nat → Prop} {a w : World} (h : Chg S a w) {p : Addr} (hp : S p.block) (n : Nat) : Chg S a (w.freeze p n) := by
  refine h.trans ?_
  unfold World.freeze
  split
  · exact Chg.refl _ _
  · exact ⟨rfl, rfl, rfl, by simp, fun k _ hk => by
      simp only [Array.getElem?_modify]
      rw [if_neg (fun (e : p.block = k) => hk (e ▸ hp))]⟩
set_option maxHeartbeats 1000000 in
set_option maxRecDepth 100000 in
theorem b_string_some {B b : Nat} {p v : Value} {l : List UInt8} {w : World} (h : BK B b p v (Lib.byteCells l) w) (h0 : l ≠ []) :
    Calls Tryz.prog 43 #[.pointer (some ⟨b, 0, none⟩)] w fun e w' => e = .returned (.string ⟨l.toArray⟩) ∧ Chg (fun k => v.ownBlock = some k) w w' := by
  have hl0 : l.length ≠ 0 := by simpa using h0
  have hown := h.own
  rw [Lib.byteCells_length] at hown
  obtain ⟨g, cap, cur, hv, hbg, hg, hnc, hcm, hcs, htake⟩ : ∃ g cap cur, v = .slice (some ⟨g, 0, none⟩) l.length cap ∧ B ≤ g ∧ w.heap[g]? = some (.cells cur 5 (0, 0)) ∧ l.length ≤ cap ∧ cap ≤ maxLen ∧ cur.size = cap * 1 ∧ cur.toList.take (l.length * 1) = Lib.byteCells l := by
    rcases hown.2 with ⟨_, hz⟩ | ⟨g, cap, cur, hv, r⟩
    · exact absurd hz hl0
    · exact ⟨g, cap, cur, hv, r⟩
  subst hv
  have c1 : w.drew.cell? ⟨b, 1, none⟩ = some (.slice (some ⟨g, 0, none⟩) l.length cap) := by
    have : w.drew.heap[b]? = some (.cells #[p, .slice (some ⟨g, 0, none⟩) l.length cap] 110 (0, 0)) := h.blk
    rw [Lib.cell_of_heap this]; rfl
  have hSD : (Builtin.unsafeSliceData_ #[51] 143 #[.slice (some ⟨g, 0, none⟩) l.length cap]).run Tryz.prog w.drew = .ok (.pointer (some ⟨g, 0, none⟩)) w.drew :=
    Lib.run_unsafeSliceData_row _ _ _ _ _ _ (by omega)
  have hUS : (Builtin.unsafeString_ #[143, 3] 9 #[.pointer (some ⟨g, 0, none⟩), .int .i64 l.length]).run Tryz.prog w.drew = .ok (.string ⟨l.toArray⟩) (w.drew.freeze ⟨g, 0, none⟩ l.length) := by
    refine Lib.run_unsafeString_row w.drew 143 3 9 5 Tryz.underlying143 Tryz.cellsByte g cur.size (by have hg' : w.drew.heap[g]? = some (.cells cur 5 (0, 0)) := hg; simp [World.shape?, hg']) l h0 (by omega) (by unfold maxLen at hcm; omega) ?_
    intro j x hx
    have := hown.cells (g := g) rfl j (.int .u8 x.toNat) (by simp [Lib.byteCells, hx])
    exact this
  have hne := h.ne
  clear h hown hbg hg hnc hcm hcs htake h0 hl0 hne
  go_enter Tryz.func43, Tryz.ntmps43
  go_wp2_with fail
  go_region
  all_goals (go_wp2_with fail; go_ret; exact ⟨rfl, (Chg.freeze (S := fun k => (Value.slice (some ⟨g, 0, none⟩) l.length cap).ownBlock = some k) ((Chg.refl _ w).drew) (p := ⟨g, 0, none⟩) rfl _)⟩)
set_option maxHeartbeats 1000000 in
set_option maxRecDepth 100000 in
theorem b_string_none {B b : Nat} {p : Value} {w : World} (h : BK B b p (.slice none 0 0) [] w) :
    Calls Tryz.prog 43 #[.pointer (some ⟨b, 0, none⟩)] w fun e w' => e = .returned (.string ⟨#[]⟩) ∧ Chg (fun _ => False) w w' := by
  have hUS := fun (W : World) (q : Option Addr) => Lib.run_unsafeString_none (P := Tryz.prog) W 143 3 9 q
  have c1 : w.drew.cell? ⟨b, 1, none⟩ = some (.slice none 0 0) := by
    have : w.drew.heap[b]? = some (.cells #[p, .slice none 0 0] 110 (0, 0)) := h.blk
    rw [Lib.cell_of_heap this]; rfl
  have hSD : (Builtin.unsafeSliceData_ #[51] 143 #[.slice none 0 0]).run Tryz.prog w.drew = .ok (.pointer none) w.drew := rfl
  clear h
  go_enter Tryz.func43, Tryz.ntmps43
  go_wp2_with fail
  go_region
  all_goals (go_wp2_with fail; go_ret; exact ⟨rfl, (Chg.refl _ w).drew⟩)
end Go.Proofs.YtijooajhjcfneaaGreat

namespace Go.Proofs.YtijooajhjcfneaaGreat
open Go.RowKit

/-- the bytes at these addresses -/
def inS (V : Nat → Nat) (xs : List Nat) : List UInt8 := xs.flatMap fun a => (memStr V a 1).data.toList
theorem inS_next (V : Nat → Nat) (xs : List Nat) (a : Nat) : inS V (xs ++ [a]) = inS V xs ++ (memStr V a 1).data.toList := by
  unfold inS
  rw [List.flatMap_append]
  simp
theorem memStr_one_len (V : Nat → Nat) (a : Nat) : (memStr V a 1).data.toList.length = 1 := by
  have := memStr_size V a 1
  simpa using this
theorem inS_len (V : Nat → Nat) : ∀ xs : List Nat, (inS V xs).length = xs.length
  | [] => rfl
  | x :: xs => by
    have h : inS V (x :: xs) = (memStr V x 1).data.toList ++ inS V xs := by unfold inS; rw [List.flatMap_cons]
    rw [h, List.length_append, memStr_one_len, inS_len V xs, List.length_cons]
    omega
theorem gtS_one {V : Nat → Nat} {F a : Nat} (h : a < F * 256) : gtS F V a 1 = memStr V a 1 ∧ cdG F a 1 = 0 := by
  have h2 : cdG F a 1 = 0 := by
    unfold cdG
    rw [if_neg (by omega), if_pos (by show a + 1 ≤ F * 256; omega)]
  refine ⟨?_, h2⟩
  unfold gtS
  rw [if_pos h2]
  rfl
/-- a pool and a builder beside it -/
structure BX (S : Nat → Prop) (w : World) (b q p F : Nat) (Fr : Nat → Bool) (V : Nat → Nat) (pv v : Value) (l : List UInt8) (wr : World) : Prop where
  bk : BK w.heap.size b pv v (Lib.byteCells l) wr
  pl : Pl (fun k => S k ∨ k = b ∨ v.ownBlock = some k) wr q p F 0 Fr V
  chg : Chg (fun k => ¬ S k) w wr
  nil : l = [] → v = .slice none 0 0
theorem BX.new {S : Nat → Prop} {w : World} {q p F : Nat} {Fr : Nat → Bool} {V : Nat → Nat} (h : Pl S w q p F 0 Fr V) : BX S w w.heap.size q p F Fr V (.pointer none) (.slice none 0 0) [] (w.alloc (.cells #[.pointer none, .slice none 0 0] 110)) := by
  have c : Chg (fun _ => False) w (w.alloc (.cells #[.pointer none, .slice none 0 0] 110)) := (Chg.refl _ w).alloc _
  refine ⟨BK.new _ _ (Nat.le_refl _), (h.boxed c (by simp)).weak (fun k hk => ?_), c.mono (fun _ h => h.elim), fun _ => rfl⟩
  rcases hk with hk | hk | hk
  · exact .inl hk
  · exact .inr hk
  · cases hk
theorem BX.stepped {S : Nat → Prop} {w wr w' : World} {b q p F : Nat} {Fr Fr' : Nat → Bool} {V V' : Nat → Nat} {pv v r : Value} {l : List UInt8} {e : Ending} (h : BX S w b q p F Fr V pv v l wr) (k : StepF (fun k => S k ∨ k = b ∨ v.ownBlock = some k) wr q p F 0 Fr' V' r e w') : BX S w b q p F Fr' V' pv v l w' :=
  ⟨h.bk.chg k.2.2 (fun a => a (.inr (.inl rfl))) (fun k hk a => a (.inr (.inr hk))), k.2.1, h.chg.trans (k.2.2.mono (fun k a b => a (.inl b))), h.nil⟩
theorem BX.quiet {S : Nat → Prop} {w wr w' : World} {b q p F : Nat} {Fr : Nat → Bool} {V : Nat → Nat} {pv v : Value} {l : List UInt8} (h : BX S w b q p F Fr V pv v l wr) (c : Chg (fun _ => False) wr w') : BX S w b q p F Fr V pv v l w' :=
  ⟨h.bk.chg c (fun a => a) (fun _ _ a => a), h.pl.nothing c, h.chg.trans (c.mono (fun _ h => h.elim)), h.nil⟩
theorem BX.written {S : Nat → Prop} {w wr w' : World} {b q p F : Nat} {Fr : Nat → Bool} {V : Nat → Nat} {pv v v' : Value} {l : List UInt8} (h : BX S w b q p F Fr V pv v l wr) (s : ByteArray) (h0 : 0 < s.size)
    (k1 : BK w.heap.size b (.pointer (some ⟨b, 0, none⟩)) v' (Lib.byteCells l ++ Lib.strCells s) w') (k2 : Chg (fun k => k = b ∨ v.ownBlock = some k) wr w') (k3 : v'.ownBlock = v.ownBlock ∨ ∀ k, v'.ownBlock = some k → wr.heap.size ≤ k) :
    BX S w b q p F Fr V (.pointer (some ⟨b, 0, none⟩)) v' (l ++ s.data.toList) w' := by
  refine ⟨?_, h.pl.beside k2 (fun k hk => .inr hk) (fun k hk => ?_) (fun k hk => ?_), h.chg.trans' k2 (fun k hk => .inr ?_), fun e => ?_⟩
  · rw [Lib.byteCells_append, ← Lib.strCells_eq]; exact k1
  · rcases hk with hk | hk | hk
    · exact .inl (.inl hk)
    · exact .inl (.inr (.inl hk))
    · rcases k3 with e | e
      · exact .inl (.inr (.inr (e ▸ hk)))
      · exact .inr (e k hk)
  · rcases hk with hk | rfl | hk
    · exact Nat.lt_of_lt_of_le (h.pl.lt k (.inl hk)) k2.size
    · exact k1.lt
    · exact (ownsRow_lt k1.own k hk).2
  · rcases hk with rfl | hk
    · exact h.bk.le
    · exact (ownsRow_lt h.bk.own k hk).1
  · have h1 : (l ++ s.data.toList).length = 0 := by rw [e]; rfl
    rw [List.length_append] at h1
    have : s.data.toList.length = s.size := by simp
    omega
/-- what String answers -/
theorem bx_string {S : Nat → Prop} {w wr : World} {b q p F : Nat} {Fr : Nat → Bool} {V : Nat → Nat} {pv v : Value} {l : List UInt8} (h : BX S w b q p F Fr V pv v l wr) :
    Calls Tryz.prog 43 #[.pointer (some ⟨b, 0, none⟩)] wr fun e w' => e = .returned (.string ⟨l.toArray⟩) ∧ Pl S w' q p F 0 Fr V ∧ Chg (fun k => ¬ S k) w w' := by
  by_cases e : l = []
  · subst e
    have hv := h.nil rfl
    subst hv
    exact (b_string_none h.bk).mono fun r w' ⟨h1, h2⟩ => ⟨h1, (h.pl.nothing h2).weak (fun k hk => .inl hk), h.chg.trans (h2.mono (fun _ h => h.elim))⟩
  · refine (b_string_some h.bk e).mono fun r w' ⟨h1, h2⟩ => ⟨h1, h.pl.beside h2 (fun k hk => .inr (.inr hk)) (fun k hk => .inl (.inl hk)) (fun k hk => Nat.lt_of_lt_of_le (h.pl.lt k (.inl hk)) h2.size), h.chg.trans' h2 (fun k hk => .inr (ownsRow_lt h.bk.own k hk).1)⟩
theorem bx_write {S : Nat → Prop} {w wr : World} {b q p F : Nat} {Fr : Nat → Bool} {V : Nat → Nat} {pv v : Value} {l : List UInt8} (h : BX S w b q p F Fr V pv v l wr) (s : ByteArray) (h0 : 0 < s.size) (hl : l.length + s.size ≤ 140737488355328) :
    Calls Tryz.prog 42 #[.pointer (some ⟨b, 0, none⟩), .string s] wr fun e w' => e = .returned (.tuple #[.int .i64 s.size, .nilIface]) ∧ ∃ v', BX S w b q p F Fr V (.pointer (some ⟨b, 0, none⟩)) v' (l ++ s.data.toList) w' :=
  (b_write h.bk s (by rw [Lib.byteCells_length]; exact hl) h.chg.size).mono fun e w' ⟨h1, v', k1, k2, k3⟩ => ⟨h1, v', h.written s h0 k1 k2 k3⟩

theorem sp_in_nil (w : World) (root at_ n : Int) :
    Calls Tryz.prog 19 #[.pointer none, .int .i64 root, .int .u64 at_, .int .i64 n] w fun e w' => e = .returned (.tuple #[.string ⟨#[]⟩, .int .i64 1]) ∧ w = w' := by
  have HT := Lib.hid (sp_taken_nil w root)
  go_enter Tryz.func19, Tryz.ntmps19
  go_wp2_with fail
  refine HT.out.mono ?_
  rintro e w1 ⟨rfl, rfl⟩
  go_wp2_with fail
  go_ret2
  exact ⟨rfl, rfl⟩
end Go.Proofs.YtijooajhjcfneaaGreat

namespace Go.Proofs.YtijooajhjcfneaaGreat
open Go.RowKit

/-- behind j bytes -/
def InAt (V : Nat → Nat) (F root at_ j : Nat) (l : List UInt8) : Prop := ∃ xs, adrs V F root at_ 1 j = some xs ∧ l = inS V xs
def inR (V : Nat → Nat) : Option (List Nat) → Value
  | none => .tuple #[.string ⟨#[]⟩, .int .i64 3]
  | some xs => .tuple #[.string ⟨(inS V xs).toArray⟩, .int .i64 0]
set_option maxRecDepth 100000 in
set_option maxHeartbeats 1600000 in
theorem sp_in {S : Nat → Prop} {w : World} {q p F : Nat} {Fr : Nat → Bool} {V : Nat → Nat} {R : Roles} (h : Pl S w q p F 0 Fr V) (hF : F ≤ 256) (hW : WF F Fr V R) (root : Nat) (hr : R root = some (root, 3, 0)) (at_ n : Nat) (hn : n ≤ 4096) :
    Calls Tryz.prog 19 #[.pointer (some ⟨q, 0, none⟩), .int .i64 root, .int .u64 at_, .int .i64 n] w (StepF S w q p F 0 Fr V (inR V (adrs V F root at_ 1 n))) := by
  have HT := sp_taken h hF root
  rw [hW.taken hr] at HT
  have hrF := hW.lt _ _ hr
  have KW := fun (W : World) (S' : Nat → Prop) (x : Nat) (H : Pl S' W q p F 0 Fr V) => f_wk H hF root x 1
  have KW := fun (W : World) (S' : Nat → Prop) (x : Nat) (H : Pl S' W q p F 0 Fr V) => (wkR_at V F root x 1 hrF (by omega)) ▸ KW W S' x H
  have d1 : decide ((4096 : Int) < (n : Int)) = false := decide_eq_false (by omega)
  have d2 : ¬ 4096 < n := by omega
  have d3 : decide ((n : Int) < (0 : Int)) = false := decide_eq_false (by omega)
  have HT := Lib.hid HT; have KW := Lib.hid KW
  have HN := Lib.hid (And.intro hn hF)
  clear h hF hW hr hrF hn
  go_enter Tryz.func19, Tryz.ntmps19
  go_wp2_with fail
  refine HT.out.mono ?_
  rintro e w1 ⟨rfl, m1, c1⟩
  have M1 := Lib.hid (BX.new m1); have C1 := Lib.hid c1; clear m1 c1
  go_wp2_with fail
  go_loopw [29] (fun i wr => ∃ pv v l j, j ≤ n ∧ i = .int .i64 (j : Nat) ∧ Hid (BX S w1 w1.heap.size q p F Fr V pv v l wr) ∧ Hid (InAt V F root at_ j l)) (fun i _ => n - (intOf i).toNat)
  case atStart => exact ⟨_, _, [], 0, Nat.zero_le _, rfl, M1, Lib.hid ⟨[], rfl, rfl⟩⟩
  case round =>
    obtain ⟨pv, v, l, j, hj, rfl, HA, HO⟩ := hrel
    obtain ⟨xs, hxs, hl⟩ := HO.out
    by_cases hlt : j < n
    · have k0 : decide ((j : Int) < (n : Int)) = true := decide_eq_true (by omega)
      have hn := HN.out.1
      have hlen := adrs_len j xs hxs
      have hll : l.length = j := by rw [hl, inS_len, hlen]
      obtain ⟨t1, t2⟩ := at_wrap at_ j (by omega)
      obtain ⟨X, hX⟩ : ∃ X, X = (at_ + j) % 18446744073709551616 := ⟨_, rfl⟩
      rw [← hX] at t2
      have KM := Lib.hid (f_mem HA.out.pl)
      have KW1 := KW.out wr _ X HA.out.pl
      have HX := Lib.hid hX
      have HL := Lib.hid (And.intro hll (And.intro hxs hl))
      clear hX hn hlen hll hxs hl
      rcases opt_cases (tbAt V F root X 1) with ht | ⟨a, ht⟩
      · have hno := adrs_none (j + 1) n (by omega) (adrs_step_no HL.out.2.1 (by rw [← HX.out]; exact ht))
        rw [ht, lfVal_none] at KW1
        have KW1 := Lib.hid KW1
        rw [hno]
        clear ht hno
        go_wp2_with fail
        refine KM.out.mono ?_
        rintro e w' ⟨rfl, rfl⟩
        go_wp2_with fail
        refine KW1.out.mono ?_
        rintro e w3 ⟨rfl, m3, c3⟩
        have M3 := Lib.hid (HA.out.stepped ⟨rfl, m3, c3⟩ (r := .int .u64 0) (e := .returned (.int .u64 0))); clear m3 c3
        go_wp2_with fail
        go_ret2
        exact ⟨rfl, M3.out.pl.weak (fun k a => .inl a), C1.out.trans M3.out.chg⟩
      · have haF := tbAt_lt ht
        have HST := Lib.hid (show InAt V F root at_ (j + 1) (l ++ (memStr V a 1).data.toList) from ⟨xs ++ [a], adrs_step HL.out.2.1 (by rw [← HX.out]; exact ht), by rw [inS_next, HL.out.2.2]⟩)
        rw [ht, lfVal_some] at KW1
        have KW1 := Lib.hid KW1
        have hF2 := HN.out.2
        have KG := fun (W : World) (S' : Nat → Prop) (H : Pl S' W q p F 0 Fr V) => f_get H hF2 a (by omega) 1 (by omega) (a : Int) rfl
        rw [(gtS_one (V := V) haF).1, (gtS_one (V := V) haF).2] at KG
        have KMM := fun (W : World) (S' : Nat → Prop) (H : Pl S' W q p F 0 Fr V) => f_mem H
        have hsz := memStr_size V a 1
        generalize memStr V a 1 = s1 at *
        have KB := fun (W : World) (H : BX S w1 w1.heap.size q p F Fr V pv v l W) => bx_write H s1 (by omega) (by rw [HL.out.1, hsz]; have := HN.out.1; omega)
        have KG := Lib.hid KG; have KMM := Lib.hid KMM; have KB := Lib.hid KB
        clear ht haF hF2 hsz
        go_wp2_with fail
        refine KM.out.mono ?_
        rintro e w' ⟨rfl, rfl⟩
        go_wp2_with fail
        refine KW1.out.mono ?_
        rintro e w3 ⟨rfl, m3, c3⟩
        have M3 := Lib.hid (HA.out.stepped ⟨rfl, m3, c3⟩ (r := .int .u64 0) (e := .returned (.int .u64 0))); clear m3 c3
        have KM2 := Lib.hid (KMM.out _ _ M3.out.pl)
        have KG2 := Lib.hid (KG.out _ _ M3.out.pl)
        clear t1 t2
        go_wp2_with fail
        refine KM2.out.mono ?_
        rintro e w' ⟨rfl, rfl⟩
        go_wp2_with fail
        refine KG2.out.mono ?_
        rintro e w4 ⟨rfl, m4, c4⟩
        have M4 := Lib.hid (M3.out.stepped ⟨rfl, m4, c4⟩ (r := .int .u64 0) (e := .returned (.int .u64 0))); clear m4 c4
        go_wp2_with fail
        refine (KB.out _ M4.out).mono ?_
        rintro e w5 ⟨rfl, v5, m5⟩
        have M5 := Lib.hid m5; clear m5
        go_wp2_with fail
        go_roundw
        case rel => exact ⟨_, _, _, j + 1, by omega, by go_num, M5, HST⟩
        case measure => simp [intOf]; omega
    · obtain rfl : j = n := by omega
      have k0 : decide ((j : Int) < (j : Int)) = false := decide_eq_false (by omega)
      have HE : inR V (some xs) = .tuple #[.string ⟨l.toArray⟩, .int .i64 0] := by rw [hl]; rfl
      rw [← hxs] at HE
      have HE := Lib.hid HE
      have KS := Lib.hid (bx_string HA.out)
      clear hlt hxs hl
      go_wp2_with fail
      refine KS.out.mono ?_
      rintro e w5 ⟨rfl, m5, c5⟩
      have M5 := Lib.hid (And.intro m5 c5); clear m5 c5
      go_wp2_with fail
      go_ret2
      exact ⟨congrArg Ending.returned HE.out.symm, M5.out.1, C1.out.trans M5.out.2⟩
end Go.Proofs.YtijooajhjcfneaaGreat

namespace Go.Proofs.YtijooajhjcfneaaGreat
open Go.RowKit

structure SG (F : Nat) (s : PS) (R : Roles) : Prop where
  wf : WFS F s R
  full : Full R
theorem good_start (F : Nat) (V : Nat → Nat) : SG F ⟨frAll 0 F, V⟩ (fun _ => none) := by
  refine ⟨⟨fun f => ?_, (fun f x h => by cases h), (fun f r l i h => by cases h), (fun f g x h => by cases h), (fun f r l i k h => by cases h)⟩, (fun f r l i h => by cases h)⟩
  show frAll 0 F f = true ↔ _
  unfold frAll
  simp
theorem good_new {F : Nat} {s : PS} {R : Roles} (g : SG F s R) (hc : 0 < s.left F) : SG F (s.take F) (setR R (s.top F) (s.top F, 3, 0)) ∧ setR R (s.top F) (s.top F, 3, 0) (s.top F) = some (s.top F, 3, 0) ∧ (∀ f x, R f = some x → setR R (s.top F) (s.top F, 3, 0) f = some x) :=
  ⟨⟨(new_grow g.wf hc).1.wf, new_full g.wf g.full hc⟩, setR_same _ _ _, (new_grow g.wf hc).1.sub⟩
theorem good_map {F : Nat} (hF : F ≤ 256) {s : PS} {R : Roles} (g : SG F s R) {r page bits : Nat} (hr : R r = some (r, 3, 0)) (hp : page < 32768) (hb : bits < 32) (hb1 : bits % 2 = 1) {s' : PS} (hs : (mapS F s r page bits).1 = s') :
    ∃ R', SG F s' R' ∧ ∀ f x, R f = some x → R' f = some x := by
  rcases mapS_cases hF g.wf g.full hr hp hb hb1 with ⟨h, _⟩ | ⟨h, _⟩ | ⟨_, _, R', l, _, m, hf, _⟩
  · rw [h] at hs; subst hs; exact ⟨R, g, fun _ _ h => h⟩
  · rw [h] at hs; subst hs; exact ⟨R, g, fun _ _ h => h⟩
  · rw [hs] at m; exact ⟨R', ⟨m.grow.wf, hf⟩, m.grow.sub⟩
/-- an address of a space lies in one of its pages -/
theorem tbGo_some {F e x : Nat} (h : tbGo F e = some x) : e % 2 = 1 ∧ e / 1024 = x := by
  unfold tbGo at h
  by_cases c : e % 2 = 0 ∨ e / 2 % 8 ≠ 0 ∨ F ≤ e / 1024
  · rw [if_pos c] at h; cases h
  · rw [if_neg c] at h
    cases h
    exact ⟨by omega, rfl⟩
theorem tbMay_some {F e acc off a : Nat} (hoff : off < 256) (h : (if tbMay F e acc = true then some (e / 1024 * 256 + off) else none) = some a) : e % 2 = 1 ∧ a / 256 = e / 1024 := by
  by_cases hm : tbMay F e acc = true
  · rw [if_pos hm] at h
    cases h
    have h2 : e % 2 ≠ 0 := by unfold tbMay at hm; exact (of_decide_eq_true hm).1
    omega
  · rw [if_neg hm] at h
    cases h
theorem mod32_lt (x : Nat) : x % 32 < 32 := Nat.mod_lt _ (by decide)
theorem leaf_role {F : Nat} {s : PS} {R : Roles} (h : WFS F s R) {root at_ x : Nat} (hr : R root = some (root, 3, 0)) (hl : tbLeaf s.V F root at_ = some x) : ∃ b i k, k < 32 ∧ R b = some (root, 1, i) ∧ x = b * 256 + 8 * k := by
  unfold tbLeaf at hl
  rw [Option.bind_eq_some_iff] at hl
  obtain ⟨a, h1, hl⟩ := hl
  rw [Option.map_eq_some_iff] at hl
  obtain ⟨b, h2, rfl⟩ := hl
  obtain ⟨o1, d1⟩ := tbGo_some h1
  obtain ⟨o2, d2⟩ := tbGo_some h2
  have k1 : kid s.V root (at_ / 262144 % 32) = some a := by rw [kid_of_odd (show ent s.V root (at_ / 262144 % 32) % 2 = 1 from o1)]; exact congrArg some d1
  have r1 := (h.kid hr (mod32_lt _) k1).1
  have k2 : kid s.V a (at_ / 8192 % 32) = some b := by rw [kid_of_odd (show ent s.V a (at_ / 8192 % 32) % 2 = 1 from o2)]; exact congrArg some d2
  have r2 := (h.kid r1 (mod32_lt _) k2).1
  exact ⟨b, _, _, mod32_lt _, r2, rfl⟩
theorem at_role {F : Nat} {s : PS} {R : Roles} (h : WFS F s R) {root at_ acc a : Nat} (hr : R root = some (root, 3, 0)) (ha : tbAt s.V F root at_ acc = some a) : ∃ i, R (a / 256) = some (root, 0, i) := by
  unfold tbAt at ha
  by_cases c : 8388608 ≤ at_
  · rw [if_pos c] at ha; cases ha
  · rw [if_neg c] at ha
    rcases opt_cases (tbLeaf s.V F root at_) with hl | ⟨x, hl⟩
    · rw [wk_none hl] at ha; cases ha
    · rw [wk_some hl] at ha
      obtain ⟨o, d⟩ := tbMay_some (Nat.mod_lt _ (by decide)) ha
      obtain ⟨b, i, k, hk, hb, rfl⟩ := leaf_role h hr hl
      have hk2 := kid_of_odd (show ent s.V b k % 2 = 1 from o)
      have r := (h.kid hb hk hk2).1
      rw [show ent s.V b k / 1024 = a / 256 from d.symm] at r
      exact ⟨_, r⟩
theorem adrs_role {F : Nat} {s : PS} {R : Roles} (h : WFS F s R) {root at_ acc : Nat} (hr : R root = some (root, 3, 0)) : ∀ n l, adrs s.V F root at_ acc n = some l → ∀ x ∈ l, ∃ i, R (x / 256) = some (root, 0, i) := by
  intro n
  induction n with
  | zero => intro l h x hx; cases h; cases hx
  | succ n ih =>
    intro l h2 x hx
    have h' : (adrs s.V F root at_ acc n).bind (fun l => (tbAt s.V F root ((at_ + n) % 18446744073709551616) acc).map fun a => l ++ [a]) = some l := h2
    rw [Option.bind_eq_some_iff] at h'
    obtain ⟨l1, h1, h3⟩ := h'
    rw [Option.map_eq_some_iff] at h3
    obtain ⟨a, ha, rfl⟩ := h3
    rcases List.mem_append.1 hx with hx | hx
    · exact ih l1 h1 x hx
    · obtain rfl := List.mem_singleton.1 hx
      exact at_role h hr ha
theorem outV_same {V : Nat → Nat} {xs : List Nat} {s : ByteArray} {a : Nat} : ∀ n, n ≤ xs.length → a ∉ xs → outV V xs s n a = V a
  | 0, _, _ => rfl
  | n + 1, hn, ha => by
    show putV (outV V xs s n) (xs.getD n 0) 1 (fun _ => byt s n) a = _
    have e : xs.getD n 0 = xs[n]'(by omega) := by rw [List.getD, List.getElem?_eq_getElem (by omega)]; rfl
    have hne : a ≠ xs.getD n 0 := fun h => ha (by rw [h, e]; exact List.getElem_mem _)
    unfold putV
    rw [if_neg (by omega)]
    exact outV_same n (by omega) ha
theorem good_out {F : Nat} {s : PS} {R : Roles} (g : SG F s R) {root at_ : Nat} (hr : R root = some (root, 3, 0)) {ys : List Nat} {n : Nat} (b : ByteArray) (h : adrs s.V F root at_ 2 n = some ys) : SG F ⟨s.Fr, outV s.V ys b n⟩ R := by
  refine ⟨WF.congr (V := s.V) g.wf fun f r l i hf a ha => ?_, g.full⟩
  refine outV_same n (Nat.le_of_eq (adrs_len n ys h).symm) fun hm => ?_
  obtain ⟨i', e⟩ := adrs_role g.wf hr n ys h a hm
  rw [ha, hf] at e
  cases e
theorem good_copy {F : Nat} (hF : F ≤ 256) {s : PS} {R : Roles} (g : SG F s R) {root : Nat} (hr : R root = some (root, 3, 0)) (hc : (visT s.V 2 root 0 32).length + 1 ≤ s.left F) {s' : PS} (hs : cpAll F (s.top F) (s.take F) (visT (s.take F).V 2 root 0 32) = s') :
    ∃ R', SG F s' R' ∧ R' root = some (root, 3, 0) ∧ R' (s.top F) = some (s.top F, 3, 0) ∧ root ≠ s.top F ∧ cntN (hasB F R' (s.top F)) = cntN (hasB F R root) ∧ cntN (hasB F R' root) = cntN (hasB F R root) ∧ s'.left F + cntN (hasB F R root) = s.left F ∧ (∀ f x, R f = some x → R' f = some x) := by
  have h0 : 0 < s.left F := Nat.lt_of_lt_of_le (Nat.succ_pos _) hc
  have b := copy_begin g.wf g.full hr (by rw [← vis_count g.wf hr]; exact hc) h0
  obtain ⟨R', c⟩ := cp_all hF b
  have hall := c.all b
  rw [hs] at c
  have hsub := c.grow.sub
  obtain ⟨gn, hn, _, _⟩ := new_grow g.wf h0
  have hoth : hasB F (setR R (s.top F) (s.top F, 3, 0)) root = hasB F R root := hasB_set_other g.wf.lt (lst_lt h0) hn _ root 3 0 b.ne
  rw [hoth] at hall
  have hroot : hasB F R' root = hasB F R root := by
    rw [← hoth]
    funext l i
    apply Bool.eq_iff_iff.2
    rw [hasB_iff c.grow.wf.lt, hasB_iff b.wf.lt]
    exact ⟨fun ⟨f, hf⟩ => ⟨f, c.grow.oth f root l i b.ne hf⟩, fun ⟨f, hf⟩ => ⟨f, hsub _ _ hf⟩⟩
  have hcnt := c.grow.cnt
  rw [b.one, congrArg cntN hall] at hcnt
  have hl := PS.left_take h0
  exact ⟨R', ⟨c.grow.wf, c.full⟩, hsub _ _ b.hroot, hsub _ _ b.hto, b.ne, congrArg cntN hall, congrArg cntN hroot, by omega, fun f x h => hsub _ _ (gn.sub _ _ h)⟩
theorem good_off {F : Nat} {s : PS} {R : Roles} (g : SG F s R) (r : Nat) : SG F (s.off R r) (offR R r) ∧ ∀ f x, R f = some x → x.1 ≠ r → offR R r f = some x := by
  have hon : ∀ f x, R f = some x → x.1 ≠ r → offR R r f = some x := fun f x hx hr => by
    have : ownR R r f = false := by unfold ownR; rw [hx]; simpa using hr
    unfold offR; rw [this]; exact hx
  refine ⟨⟨off_wf g.wf r, fun f r' l i hf hl => ?_⟩, hon⟩
  unfold offR at hf
  by_cases e : ownR R r f = true
  · rw [if_pos e] at hf; cases hf
  · rw [if_neg e] at hf
    have hne : r' ≠ r := fun e2 => e (ownR_iff.2 ⟨l, i, e2 ▸ hf⟩)
    obtain ⟨g', p, h1, h2⟩ := g.full f r' l i hf hl
    exact ⟨g', p, hon _ _ h1 hne, h2⟩
end Go.Proofs.YtijooajhjcfneaaGreat
