/-
  phys.Get, Put by their contracts.
-/
import Derived.Test.YtodjmfmenfncdaaMem2
import Derived.Lib.BufferWrite
import Derived.Lib.SliceRun
import Derived.Shelf.Bytes.SlSmallAll
namespace Go.Proofs.Ytodjmfmenfncdaa
open Go.RowKit

theorem blk_setRow {w : World} {g : Nat} {cur cs : Array Value} {t : TypeId} (h : Blk w g cur t) : Blk (w.setRow g cs) g cs t := setRow_heap w g cur cs t (0, 0) h
theorem chg_setRow {S : Nat → Prop} {w w' : World} (h : Chg S w w') {g : Nat} {cs : Array Value} (hg : S g ∨ w.heap.size ≤ g) : Chg S w (w'.setRow g cs) :=
  ⟨h.os, h.tape, h.output, by simp [World.setRow]; exact h.size, fun k hk hn => by
    refine Eq.trans ?_ (h.block k hk hn)
    have hne : g ≠ k := fun e => by rcases hg with hg | hg; exact hn (e ▸ hg); omega
    simp [World.setRow, Array.getElem?_modify, hne]⟩

/-- bytes put from a place on -/
def putV (V : Nat → Nat) (at_ n : Nat) (f : Nat → Nat) (i : Nat) : Nat := if at_ ≤ i ∧ i < at_ + n then f (i - at_) else V i
theorem putV_small {V : Nat → Nat} {at_ n : Nat} {f : Nat → Nat} (h : ∀ i, V i < 256) (hf : ∀ i, f i < 256) (i : Nat) : putV V at_ n f i < 256 := by
  unfold putV; split; exact hf _; exact h i
theorem putV_none (V : Nat → Nat) (at_ : Nat) (f : Nat → Nat) : putV V at_ 0 f = V := by
  funext i; unfold putV; rw [if_neg (by omega)]

theorem row_put {w : World} {g N : Nat} {V : Nat → Nat} {cur : Array Value} (hb : Blk w g cur ByT) (hs : cur.size = N) (hv : ∀ i, i < N → cur[i]? = some (.int .u8 (V i : Nat)))
    (at_ n : Nat) (f : Nat → Nat) (cs : List Value) (hn : cs.length = n) (hc : ∀ j, j < n → cs[j]? = some (.int .u8 (f j : Nat))) (hfit : at_ + n ≤ N) :
    Row (w.setRow g (cur.toList.take at_ ++ cs ++ cur.toList.drop (at_ + n)).toArray) g N (putV V at_ n f) := by
  refine ⟨_, blk_setRow hb, ?_, fun i hi => ?_⟩
  · simp; omega
  · unfold putV
    have e1 : (cur.toList.take at_).length = at_ := by simp; omega
    simp only [List.getElem?_toArray]
    by_cases h1 : i < at_
    · rw [if_neg (by omega), List.append_assoc, List.getElem?_append_left (by omega), List.getElem?_take_of_lt h1]
      simpa using hv i hi
    · by_cases h2 : i < at_ + n
      · rw [if_pos (by omega), List.append_assoc, List.getElem?_append_right (by omega), e1, List.getElem?_append_left (by omega)]
        exact hc _ (by omega)
      · rw [if_neg (by omega), List.append_assoc, List.getElem?_append_right (by omega), e1, List.getElem?_append_right (by omega), List.getElem?_drop, hn, show at_ + n + (i - at_ - n) = i from by omega]
        simpa using hv i hi

theorem infoU8s : (Try.prog.info? ByT).map (·.size) = some 1 := by kernel_rfl

/-- what a call on a memory leaves -/
def MemPost (w : World) (p F t : Nat) (o : Option Nat) (V : Nat → Nat) (v : Value) (e : Ending) (w' : World) : Prop :=
  ∃ g, e = .returned v ∧ MemM w' p g F V t ∧ Chg (MemOwn p o) w w' ∧ (o = some g ∨ o = none ∧ w.heap.size ≤ g)

theorem chg_own {w w' : World} {p : Nat} {o : Option Nat} (h : Chg (fun k => k = p) w w') : Chg (MemOwn p o) w w' := h.mono fun _ h => .inl h
theorem own_chg {w w1 w2 : World} {p g : Nat} {o : Option Nat} (h : Chg (fun k => k = p) w w1) (k : Chg (fun i => i = p ∨ i = g) w1 w2) (ho : o = some g ∨ o = none ∧ w.heap.size ≤ g) : Chg (MemOwn p o) w w2 :=
  (chg_own h).trans' k fun i hi => by
    rcases hi with rfl | rfl
    · exact .inl (.inl rfl)
    · rcases ho with ho | ho
      · exact .inl (.inr ho)
      · exact .inr ho.2

/-- the bytes of a string -/
theorem put_string (w : World) (p g F t : Nat) (V : Nat → Nat) (h : MemM w p g F V t) (off at_ cap : Nat) (s : ByteArray) (ho : 0 < s.size → off = at_) (hfit : at_ + s.size ≤ F * 256) :
    ∃ w', (Builtin.copy_ #[51, 9] 3 #[.slice (some ⟨g, off, none⟩) s.size cap, .string s]).run Try.prog w = .ok (goInt s.size) w' ∧ MemM w' p g F (putV V at_ s.size (byt s)) t ∧ Chg (fun i => i = p ∨ i = g) w w' := by
  by_cases h0 : s.size = 0
  · refine ⟨w, ?_, ?_, Chg.refl _ _⟩
    · rw [Lib.run_copy_empty_string w _ _ _ ByT _ _ _ s Try.underlying51 (by rw [infoU8s]; rfl) h0, h0]
      rfl
    · rw [h0, putV_none]; exact h
  · obtain rfl := ho (by omega)
    obtain ⟨cs, hb, hs, hv⟩ := h.row
    refine ⟨_, Lib.run_copy_row_string w _ _ _ ByT g off s.size cap s cs ByT Try.underlying51 infoU8s hb (Nat.le_refl _) (by omega), ?_, chg_setRow (Chg.refl _ _) (.inl (.inr rfl))⟩
    refine ⟨?_, row_put hb hs hv off s.size (byt s) _ (by rw [Lib.byteCells_length, ← Lib.size_eq]) (fun j hj => ?_) hfit, h.ne, putV_small h.small (byt_lt s)⟩
    · exact (chg_setRow (S := fun k => k = g) (Chg.refl _ w) (.inl rfl)).blk h.blk h.ne
    · have hj' : j < s.data.toList.length := by simpa using hj
      simp [Lib.byteCells, byt, List.getD, List.getElem?_eq_getElem hj']

set_option maxHeartbeats 800000 in
theorem mem_put (w : World) (p F t : Nat) (hF : F ≤ 256) (o : Option Nat) (V : Nat → Nat) (h : MemA w p o F V t) (at_ : Nat) (s : ByteArray) (hfit : at_ + s.size ≤ F * 256) :
    Calls Try.prog 60 #[.pointer (some ⟨p, 0, none⟩), .int .u64 at_, .string s] w (MemPost w p F t o (putV V at_ s.size (byt s)) (.int .i64 0)) := by
  have HS := Lib.hid (mem_span w p F t hF o V h at_ s.size hfit)
  clear h
  go_enter Try.func60, Try.ntmps60
  go_wp2_with fail
  refine HS.out.mono ?_
  rintro e w' ⟨g, off, cap, rfl, h1, h2, h3, h4⟩
  obtain ⟨w2, hcp, h5, h6⟩ := put_string w' p g F t V h2 off at_ cap s h1 hfit
  have HM := Lib.hid (And.intro h3 (And.intro h4 (And.intro h5 h6))); clear h1 h2 h3 h4 h5 h6
  go_wp2_with fail
  go_ret
  exact ⟨g, rfl, HM.out.2.2.1, own_chg HM.out.1 HM.out.2.2.2 HM.out.2.1, HM.out.2.1⟩

theorem mem_put_no (w : World) (p F t : Nat) (hF : F ≤ 256) (o : Option Nat) (V : Nat → Nat) (h : MemA w p o F V t) (at_ : Nat) (hw : at_ < 18446744073709551616) (s : ByteArray) (hs : s.size ≤ maxLen) (hfit : F * 256 < at_ + s.size) :
    Calls Try.prog 60 #[.pointer (some ⟨p, 0, none⟩), .int .u64 at_, .string s] w (MemPost w p F t o V (.int .i64 3)) := by
  have HS := Lib.hid (mem_span_no w p F t hF o V h at_ s.size hw (by unfold maxLen at hs; omega))
  clear h
  go_enter Try.func60, Try.ntmps60
  go_wp2_with fail
  refine HS.out.mono ?_
  rintro e w' ⟨g, rfl, hm⟩
  have HM := Lib.hid hm; clear hm
  go_wp2_with fail
  go_ret
  exact ⟨g, rfl, HM.out.1, chg_own HM.out.2.1, HM.out.2.2⟩
end Go.Proofs.Ytodjmfmenfncdaa
