/-
  Several texts in one: Mem3, Mem4, Mem5, Mem6, Mem7, Mem8, RefBytes.
-/
import Derived.Test.YtijooajhjcfneaaGreatG1
import Derived.Lib.BufferWrite
import Derived.Lib.SliceRun
import Derived.Shelf.Bytes.SlSmallAll
namespace Go.Proofs.YtijooajhjcfneaaGreat
open Go.RowKit

theorem blk_setRow {w : World} {g : Nat} {cur cs : Array Value} {t : TypeId} (h : Blk w g cur t) : Blk (w.setRow g cs) g cs t := setRow_heap w g cur cs t (0, 0) h
theorem chg_setRow {S : Nat → Prop} {w w' : World} (h : Chg S w w') {g : Nat} {cs : Array Value} (hg : S g ∨ w.heap.size ≤ g) : Chg S w (w'.setRow g cs) :=
  ⟨h.os, h.tape, h.output, by simp [World.setRow]; exact h.size, fun k hk hn => by
    refine Eq.trans ?_ (h.block k hk hn)
    have hne : g ≠ k := fun e => by rcases hg with hg | hg; exact hn (e ▸ hg); omega
    simp [World.setRow, Array.getElem?_modify, hne]⟩

/-- bytes put from a place on -/
def putV (V : Nat → Nat) (at_ n : Nat) (f : Nat → Nat) (i : Nat) : Nat := if at_ ≤ i ∧ i < at_ + n then f (i - at_) else V i
theorem putV_small {V : Nat → Nat} {at_ n : Nat} {f : Nat → Nat} (h : ∀ i, V i < 256) (hf : ∀ i, f i < 256) (i : Nat) : putV V at_ n f i < 256 := by
  unfold putV; split; exact hf _; exact h i
theorem putV_none (V : Nat → Nat) (at_ : Nat) (f : Nat → Nat) : putV V at_ 0 f = V := by
  funext i; unfold putV; rw [if_neg (by omega)]

theorem row_put {w : World} {g N : Nat} {V : Nat → Nat} {cur : Array Value} (hb : Blk w g cur ByT) (hs : cur.size = N) (hv : ∀ i, i < N → cur[i]? = some (.int .u8 (V i : Nat)))
    (at_ n : Nat) (f : Nat → Nat) (cs : List Value) (hn : cs.length = n) (hc : ∀ j, j < n → cs[j]? = some (.int .u8 (f j : Nat))) (hfit : at_ + n ≤ N) :
    Row (w.setRow g (cur.toList.take at_ ++ cs ++ cur.toList.drop (at_ + n)).toArray) g N (putV V at_ n f) := by
  refine ⟨_, blk_setRow hb, ?_, fun i hi => ?_⟩
  · simp; omega
  · unfold putV
    have e1 : (cur.toList.take at_).length = at_ := by simp; omega
    simp only [List.getElem?_toArray]
    by_cases h1 : i < at_
    · rw [if_neg (by omega), List.append_assoc, List.getElem?_append_left (by omega), List.getElem?_take_of_lt h1]
      simpa using hv i hi
    · by_cases h2 : i < at_ + n
      · rw [if_pos (by omega), List.append_assoc, List.getElem?_append_right (by omega), e1, List.getElem?_append_left (by omega)]
        exact hc _ (by omega)
      · rw [if_neg (by omega), List.append_assoc, List.getElem?_append_right (by omega), e1, List.getElem?_append_right (by omega), List.getElem?_drop, hn, show at_ + n + (i - at_ - n) = i from by omega]
        simpa using hv i hi

theorem infoU8s : (Tryz.prog.info? ByT).map (·.size) = some 1 := by kernel_rfl

/-- what a call on a memory leaves -/
def MemPost (w : World) (p F t : Nat) (o : Option Nat) (V : Nat → Nat) (v : Value) (e : Ending) (w' : World) : Prop :=
  ∃ g, e = .returned v ∧ MemM w' p g F V t ∧ Chg (MemOwn p o) w w' ∧ (o = some g ∨ o = none ∧ w.heap.size ≤ g)

theorem chg_own {w w' : World} {p : Nat} {o : Option Nat} (h : Chg (fun k => k = p) w w') : Chg (MemOwn p o) w w' := h.mono fun _ h => .inl h
theorem own_chg {w w1 w2 : World} {p g : Nat} {o : Option Nat} (h : Chg (fun k => k = p) w w1) (k : Chg (fun i => i = p ∨ i = g) w1 w2) (ho : o = some g ∨ o = none ∧ w.heap.size ≤ g) : Chg (MemOwn p o) w w2 :=
  (chg_own h).trans' k fun i hi => by
    rcases hi with rfl | rfl
    · exact .inl (.inl rfl)
    · rcases ho with ho | ho
      · exact .inl (.inr ho)
      · exact .inr ho.2

/-- the bytes of a string -/
theorem put_string (w : World) (p g F t : Nat) (V : Nat → Nat) (h : MemM w p g F V t) (off at_ cap : Nat) (s : ByteArray) (ho : 0 < s.size → off = at_) (hfit : at_ + s.size ≤ F * 256) :
    ∃ w', (Builtin.copy_ #[51, 9] 3 #[.slice (some ⟨g, off, none⟩) s.size cap, .string s]).run Tryz.prog w = .ok (goInt s.size) w' ∧ MemM w' p g F (putV V at_ s.size (byt s)) t ∧ Chg (fun i => i = p ∨ i = g) w w' := by
  by_cases h0 : s.size = 0
  · refine ⟨w, ?_, ?_, Chg.refl _ _⟩
    · rw [Lib.run_copy_empty_string w _ _ _ ByT _ _ _ s Tryz.underlying51 (by rw [infoU8s]; rfl) h0, h0]
      rfl
    · rw [h0, putV_none]; exact h
  · obtain rfl := ho (by omega)
    obtain ⟨cs, hb, hs, hv⟩ := h.row
    refine ⟨_, Lib.run_copy_row_string w _ _ _ ByT g off s.size cap s cs ByT Tryz.underlying51 infoU8s hb (Nat.le_refl _) (by omega), ?_, chg_setRow (Chg.refl _ _) (.inl (.inr rfl))⟩
    refine ⟨?_, row_put hb hs hv off s.size (byt s) _ (by rw [Lib.byteCells_length, ← Lib.size_eq]) (fun j hj => ?_) hfit, h.ne, putV_small h.small (byt_lt s)⟩
    · exact (chg_setRow (S := fun k => k = g) (Chg.refl _ w) (.inl rfl)).blk h.blk h.ne
    · have hj' : j < s.data.toList.length := by simpa using hj
      simp [Lib.byteCells, byt, List.getD, List.getElem?_eq_getElem hj']

set_option maxHeartbeats 800000 in
theorem mem_put (w : World) (p F t : Nat) (hF : F ≤ 256) (o : Option Nat) (V : Nat → Nat) (h : MemA w p o F V t) (at_ : Nat) (s : ByteArray) (hfit : at_ + s.size ≤ F * 256) :
    Calls Tryz.prog 44 #[.pointer (some ⟨p, 0, none⟩), .int .u64 at_, .string s] w (MemPost w p F t o (putV V at_ s.size (byt s)) (.int .i64 0)) := by
  have HS := Lib.hid (mem_span w p F t hF o V h at_ s.size hfit)
  clear h
  go_enter Tryz.func44, Tryz.ntmps44
  go_wp2_with fail
  refine HS.out.mono ?_
  rintro e w' ⟨g, off, cap, rfl, h1, h2, h3, h4⟩
  obtain ⟨w2, hcp, h5, h6⟩ := put_string w' p g F t V h2 off at_ cap s h1 hfit
  have HM := Lib.hid (And.intro h3 (And.intro h4 (And.intro h5 h6))); clear h1 h2 h3 h4 h5 h6
  go_wp2_with fail
  go_ret
  exact ⟨g, rfl, HM.out.2.2.1, own_chg HM.out.1 HM.out.2.2.2 HM.out.2.1, HM.out.2.1⟩

theorem mem_put_no (w : World) (p F t : Nat) (hF : F ≤ 256) (o : Option Nat) (V : Nat → Nat) (h : MemA w p o F V t) (at_ : Nat) (hw : at_ < 18446744073709551616) (s : ByteArray) (hs : s.size ≤ maxLen) (hfit : F * 256 < at_ + s.size) :
    Calls Tryz.prog 44 #[.pointer (some ⟨p, 0, none⟩), .int .u64 at_, .string s] w (MemPost w p F t o V (.int .i64 3)) := by
  have HS := Lib.hid (mem_span_no w p F t hF o V h at_ s.size hw (by unfold maxLen at hs; omega))
  clear h
  go_enter Tryz.func44, Tryz.ntmps44
  go_wp2_with fail
  refine HS.out.mono ?_
  rintro e w' ⟨g, rfl, hm⟩
  have HM := Lib.hid hm; clear hm
  go_wp2_with fail
  go_ret
  exact ⟨g, rfl, HM.out.1, chg_own HM.out.2.1, HM.out.2.2⟩
end Go.Proofs.YtijooajhjcfneaaGreat

namespace Go.Proofs.YtijooajhjcfneaaGreat
open Go.RowKit

/-- the bytes from a place on as a string -/
def memStr (V : Nat → Nat) (at_ n : Nat) : ByteArray := strOfNums ((List.range n).map fun i => ((V (at_ + i) : Nat) : Int))
theorem memStr_size (V : Nat → Nat) (at_ n : Nat) : (memStr V at_ n).size = n := by simp [memStr, strOfNums_size]

theorem get_string (w : World) (p g F t : Nat) (V : Nat → Nat) (h : MemM w p g F V t) (off at_ n cap : Nat) (ho : 0 < n → off = at_) (hfit : at_ + n ≤ F * 256) :
    (convert 51 9 (.slice (some ⟨g, off, none⟩) n cap)).run Tryz.prog w = .ok (.string (memStr V at_ n)) w := by
  by_cases h0 : n = 0
  · subst h0
    rw [run_convert_bytes_zero w _ ByT Tryz.underlying51 Tryz.underlying5 _ _ 9 Tryz.underlying9]
    rfl
  · obtain rfl := ho (by omega)
    obtain ⟨cs, hb, hs, hv⟩ := h.row
    refine run_convert_bytes_arg w 51 ByT Tryz.underlying51 Tryz.underlying5 g off n cap _ (by simp) (fun i hi => ?_) 9 Tryz.underlying9
    rw [hb.cell, hv _ (by omega)]
    simp [List.getD, hi]

set_option maxHeartbeats 800000 in
theorem mem_get (w : World) (p F t : Nat) (hF : F ≤ 256) (o : Option Nat) (V : Nat → Nat) (h : MemA w p o F V t) (at_ n : Nat) (hfit : at_ + n ≤ F * 256) :
    Calls Tryz.prog 15 #[.pointer (some ⟨p, 0, none⟩), .int .u64 at_, .int .i64 n] w (MemPost w p F t o V (.tuple #[.string (memStr V at_ n), .int .i64 0])) := by
  have HS := Lib.hid (mem_span w p F t hF o V h at_ n hfit)
  clear h
  go_enter Tryz.func15, Tryz.ntmps15
  go_wp2_with fail
  refine HS.out.mono ?_
  rintro e w' ⟨g, off, cap, rfl, h1, h2, h3, h4⟩
  have hcv := get_string w' p g F t V h2 off at_ n cap h1 hfit
  have HM := Lib.hid (And.intro h2 (And.intro h3 h4)); clear h1 h2 h3 h4
  go_wp2_with fail
  go_ret2
  exact ⟨g, rfl, HM.out.1, chg_own HM.out.2.1, HM.out.2.2⟩

theorem mem_get_neg (w : World) (p : Nat) (at_ : Nat) (n : Int) (hn : n < 0) :
    Calls Tryz.prog 15 #[.pointer (some ⟨p, 0, none⟩), .int .u64 at_, .int .i64 n] w fun e w' => e = .returned (.tuple #[.string ByteArray.empty, .int .i64 1]) ∧ w = w' := by
  go_enter Tryz.func15, Tryz.ntmps15
  go_wp2_with fail
  go_ret2
  exact ⟨rfl, rfl⟩

theorem mem_get_no (w : World) (p F t : Nat) (hF : F ≤ 256) (o : Option Nat) (V : Nat → Nat) (h : MemA w p o F V t) (at_ n : Nat) (hw : at_ < 18446744073709551616) (hn : n ≤ 9223372036854775807) (hfit : F * 256 < at_ + n) :
    Calls Tryz.prog 15 #[.pointer (some ⟨p, 0, none⟩), .int .u64 at_, .int .i64 n] w (MemPost w p F t o V (.tuple #[.string ByteArray.empty, .int .i64 3])) := by
  have HS := Lib.hid (mem_span_no w p F t hF o V h at_ n hw (by omega))
  clear h
  go_enter Tryz.func15, Tryz.ntmps15
  go_wp2_with fail
  refine HS.out.mono ?_
  rintro e w' ⟨g, rfl, hm⟩
  have HM := Lib.hid hm; clear hm
  go_wp2_with fail
  go_ret2
  exact ⟨g, rfl, HM.out.1, chg_own HM.out.2.1, HM.out.2.2⟩

/-- may a word have so many bytes? -/
def wSized (n : Int) : Bool := decide (n = 1) || decide (n = 2) || decide (n = 4) || decide (n = 8)
theorem phys_sized (w : World) (n : Int) :
    Calls Tryz.prog 86 #[.int .i64 n] w fun e w' => e = .returned (.bool (wSized n)) ∧ w = w' := by
  obtain ⟨c, hc⟩ : ∃ c, c = wSized n := ⟨_, rfl⟩
  rw [← hc]
  have HC := Lib.hid hc; clear hc
  go_enter Tryz.func86, Tryz.ntmps86
  go_wp2_with fail
  all_goals
    go_ret
    have hc := HC.out
    exact ⟨ret_bool (by rw [hc]; unfold wSized; first | (simp_all; done) | rfl), rfl⟩

/-- so often was it touched -/
theorem touch (w : World) (a : Addr) (t : Nat) (_ht : t < 18446744073709551616) (hc : w.cell? a = some (.int .u64 t)) (hf : w.frozen? a = false) :
    Calls Tryz.prog 87 #[.pointer (some a), .int .u64 1] w fun e w' => (∃ v, e = .returned v) ∧ w' = w.setCell a (.int .u64 ((t + 1) % 18446744073709551616 : Nat)) := by
  have hadd := run_call_add (P := Tryz.prog) Tryz.func101 (by kernel_rfl) (by kernel_rfl) (by kernel_rfl) .u64 (by kernel_rfl) (y := 1) (s := ((t + 1) % 18446744073709551616 : Nat)) hc hf (by simp [go_sem, IntKind.wrap, IntKind.bits, IntKind.signed])
  go_enter Tryz.func87, Tryz.ntmps87
  go_wp2_with fail
  go_ret
  exact ⟨⟨_, rfl⟩, rfl⟩

theorem MemM.touched {w w' : World} {p g F t t' : Nat} {V : Nat → Nat} (h : MemM w p g F V t) (e : w' = w.setCell ⟨p, 5, none⟩ (.int .u64 t')) : MemM w' p g F V t' ∧ Chg (fun k => k = p) w w' := by
  subst e
  have c : Chg (fun k => k = p) w (w.setCell ⟨p, 5, none⟩ (.int .u64 t')) := (Chg.refl _ _).setCell _ _ (.inl rfl)
  exact ⟨⟨h.blk.set 5 _, h.row.chg c (fun e => h.ne e.symm), h.ne, h.small⟩, c⟩

set_option maxHeartbeats 800000 in
theorem mem_load (w : World) (p F t : Nat) (hF : F ≤ 256) (ht : t < 18446744073709551616) (o : Option Nat) (V : Nat → Nat) (h : MemA w p o F V t) (at_ n : Nat) (hn : wSized n = true) (hfit : at_ + n ≤ F * 256) :
    Calls Tryz.prog 57 #[.pointer (some ⟨p, 0, none⟩), .int .u64 at_, .int .i64 n] w (MemPost w p F ((t + 1) % 18446744073709551616) o V (.tuple #[.int .u64 (wOf (memStr V at_ n) : Nat), .int .i64 0])) := by
  have HS := fun W (H : MemA W p o F V t) => Lib.hid (mem_span W p F t hF o V H at_ n hfit)
  have HZ := phys_sized w n
  rw [hn] at HZ
  have HO := fun W => Lib.hid (word_of W (memStr V at_ n) (by rw [memStr_size]; unfold maxLen; omega))
  generalize wOf (memStr V at_ n) = q at *
  have HA := Lib.hid h
  have HZ' := Lib.hid HZ; have HS' := Lib.hid HS; have HO' := Lib.hid HO
  clear h HZ HS HO
  go_enter Tryz.func57, Tryz.ntmps57
  go_wp2_with fail
  refine HZ'.out.mono ?_
  rintro e w' ⟨rfl, rfl⟩
  go_wp2_with fail
  refine (HS'.out w HA.out).out.mono ?_
  rintro e w' ⟨g, off, cap, rfl, h1, h2, h3, h4⟩
  have c5 := h2.blk.cellv 5 _ rfl
  have f5 := h2.blk.free 5
  have HM := Lib.hid (And.intro h1 (And.intro h2 (And.intro h3 h4))); clear h1 h2 h3 h4
  go_wp2_with fail
  refine (touch w' ⟨p, 5, none⟩ t ht c5 f5).mono ?_
  rintro e w2 ⟨⟨v, rfl⟩, hw2⟩
  have hT := HM.out.2.1.touched hw2
  clear hw2
  have hcv := get_string w2 p g F _ V hT.1 off at_ n cap HM.out.1 hfit
  have HT := Lib.hid hT; clear hT c5 f5
  go_wp2_with fail
  refine (HO'.out w2).out.mono ?_
  rintro e w3 ⟨rfl, rfl⟩
  go_wp2_with fail
  go_ret2
  exact ⟨g, rfl, HT.out.1, chg_own (HM.out.2.2.1.trans HT.out.2), HM.out.2.2.2⟩
end Go.Proofs.YtijooajhjcfneaaGreat

namespace Go.Proofs.YtijooajhjcfneaaGreat
open Go.RowKit

theorem wSized_le {n : Int} (h : wSized n = true) : n = 1 ∨ n = 2 ∨ n = 4 ∨ n = 8 := by
  simp only [wSized, Bool.or_eq_true, decide_eq_true_eq] at h; omega

set_option maxHeartbeats 800000 in
theorem mem_store (w : World) (p F t : Nat) (hF : F ≤ 256) (ht : t < 18446744073709551616) (o : Option Nat) (V : Nat → Nat) (h : MemA w p o F V t) (at_ n v : Nat) (hv : v < 18446744073709551616) (hn : wSized n = true) (hfit : at_ + n ≤ F * 256) :
    Calls Tryz.prog 83 #[.pointer (some ⟨p, 0, none⟩), .int .u64 at_, .int .i64 n, .int .u64 v] w (MemPost w p F ((t + 1) % 18446744073709551616) o (putV V at_ n (byt (wBytes v n))) (.int .i64 0)) := by
  have HS := fun W (H : MemA W p o F V t) => Lib.hid (mem_span W p F t hF o V H at_ n hfit)
  have HZ := phys_sized w n
  have hle := wSized_le hn
  rw [hn] at HZ
  have HO := fun W => Lib.hid (word_bytes W v hv n)
  have hsz : (wBytes v n).size = n := by rw [wBytes_size]; unfold wCount; omega
  generalize wBytes v n = q at *
  have HA := Lib.hid h
  have HZ' := Lib.hid HZ; have HS' := Lib.hid HS; have HO' := Lib.hid HO
  clear h HZ HS HO hle hv
  go_enter Tryz.func83, Tryz.ntmps83
  go_wp2_with fail
  refine HZ'.out.mono ?_
  rintro e w' ⟨rfl, rfl⟩
  go_wp2_with fail
  refine (HS'.out w HA.out).out.mono ?_
  rintro e w' ⟨g, off, cap, rfl, h1, h2, h3, h4⟩
  have c5 := h2.blk.cellv 5 _ rfl
  have f5 := h2.blk.free 5
  have HM := Lib.hid (And.intro h1 (And.intro h2 (And.intro h3 h4))); clear h1 h2 h3 h4
  go_wp2_with fail
  refine (touch w' ⟨p, 5, none⟩ t ht c5 f5).mono ?_
  rintro e w2 ⟨⟨v, rfl⟩, hw2⟩
  have hT := HM.out.2.1.touched hw2
  clear hw2
  have HT := Lib.hid hT; clear hT c5 f5
  go_wp2_with fail
  refine (HO'.out w2).out.mono ?_
  rintro e w3 ⟨rfl, h5⟩
  have h6 := HT.out.1.chg h5 (fun h => h) (fun h => h)
  obtain ⟨w4, hcp, h7, h8⟩ := put_string w3 p g F _ V h6 off at_ cap q (by rw [hsz]; exact HM.out.1) (by omega)
  rw [hsz] at hcp h7
  have HW := Lib.hid (And.intro h5 (And.intro h7 h8)); clear h5 h6 h7 h8
  go_wp2_with fail
  go_ret
  exact ⟨g, rfl, HW.out.2.1, own_chg ((HM.out.2.2.1.trans HT.out.2).trans (HW.out.1.mono (fun _ h => h.elim))) HW.out.2.2 HM.out.2.2.2, HM.out.2.2.2⟩
end Go.Proofs.YtijooajhjcfneaaGreat

namespace Go.Proofs.YtijooajhjcfneaaGreat
open Go.RowKit

theorem mem_load_arg (w : World) (p at_ : Nat) (n : Int) (hn : wSized n = false) :
    Calls Tryz.prog 57 #[.pointer (some ⟨p, 0, none⟩), .int .u64 at_, .int .i64 n] w fun e w' => e = .returned (.tuple #[.int .u64 0, .int .i64 1]) ∧ w = w' := by
  have HZ := phys_sized w n
  rw [hn] at HZ
  have HZ' := Lib.hid HZ; clear HZ hn
  go_enter Tryz.func57, Tryz.ntmps57
  go_wp2_with fail
  refine HZ'.out.mono ?_
  rintro e w' ⟨rfl, rfl⟩
  go_wp2_with fail
  go_ret2
  exact ⟨rfl, rfl⟩

theorem mem_store_arg (w : World) (p at_ v : Nat) (n : Int) (hn : wSized n = false) :
    Calls Tryz.prog 83 #[.pointer (some ⟨p, 0, none⟩), .int .u64 at_, .int .i64 n, .int .u64 v] w fun e w' => e = .returned (.int .i64 1) ∧ w = w' := by
  have HZ := phys_sized w n
  rw [hn] at HZ
  have HZ' := Lib.hid HZ; clear HZ hn
  go_enter Tryz.func83, Tryz.ntmps83
  go_wp2_with fail
  refine HZ'.out.mono ?_
  rintro e w' ⟨rfl, rfl⟩
  go_wp2_with fail
  go_ret
  exact ⟨rfl, rfl⟩

theorem mem_load_no (w : World) (p F t : Nat) (hF : F ≤ 256) (o : Option Nat) (V : Nat → Nat) (h : MemA w p o F V t) (at_ n : Nat) (hw : at_ < 18446744073709551616) (hn : wSized n = true) (hfit : F * 256 < at_ + n) :
    Calls Tryz.prog 57 #[.pointer (some ⟨p, 0, none⟩), .int .u64 at_, .int .i64 n] w (MemPost w p F t o V (.tuple #[.int .u64 0, .int .i64 3])) := by
  have hle := wSized_le hn
  have HS := Lib.hid (mem_span_no w p F t hF o V h at_ n hw (by omega))
  have HZ := phys_sized w n
  rw [hn] at HZ
  have HZ' := Lib.hid HZ
  clear h HZ hle
  go_enter Tryz.func57, Tryz.ntmps57
  go_wp2_with fail
  refine HZ'.out.mono ?_
  rintro e w' ⟨rfl, rfl⟩
  go_wp2_with fail
  refine HS.out.mono ?_
  rintro e w' ⟨g, rfl, hm⟩
  have HM := Lib.hid hm; clear hm
  go_wp2_with fail
  go_ret2
  exact ⟨g, rfl, HM.out.1, chg_own HM.out.2.1, HM.out.2.2⟩

theorem mem_store_no (w : World) (p F t : Nat) (hF : F ≤ 256) (o : Option Nat) (V : Nat → Nat) (h : MemA w p o F V t) (at_ n v : Nat) (hw : at_ < 18446744073709551616) (hn : wSized n = true) (hfit : F * 256 < at_ + n) :
    Calls Tryz.prog 83 #[.pointer (some ⟨p, 0, none⟩), .int .u64 at_, .int .i64 n, .int .u64 v] w (MemPost w p F t o V (.int .i64 3)) := by
  have hle := wSized_le hn
  have HS := Lib.hid (mem_span_no w p F t hF o V h at_ n hw (by omega))
  have HZ := phys_sized w n
  rw [hn] at HZ
  have HZ' := Lib.hid HZ
  clear h HZ hle
  go_enter Tryz.func83, Tryz.ntmps83
  go_wp2_with fail
  refine HZ'.out.mono ?_
  rintro e w' ⟨rfl, rfl⟩
  go_wp2_with fail
  refine HS.out.mono ?_
  rintro e w' ⟨g, rfl, hm⟩
  have HM := Lib.hid hm; clear hm
  go_wp2_with fail
  go_ret
  exact ⟨g, rfl, HM.out.1, chg_own HM.out.2.1, HM.out.2.2⟩

theorem MemA.cell5 {w : World} {p F t : Nat} {o : Option Nat} {V : Nat → Nat} (h : MemA w p o F V t) : w.cell? ⟨p, 5, none⟩ = some (.int .u64 t) := by
  cases h with
  | un h => exact h.blk.cellv 5 _ rfl
  | made h => exact h.blk.cellv 5 _ rfl

theorem mem_frame (w : World) (p F t : Nat) (hF : F ≤ 256) (o : Option Nat) (V : Nat → Nat) (h : MemA w p o F V t) (f : Nat) (hf : f < F) :
    Calls Tryz.prog 61 #[.pointer (some ⟨p, 0, none⟩), .int .i64 f] w (Span w p F t o V (f * 256) 256) := by
  have HS := Lib.hid (mem_span w p F t hF o V h (f * 256) 256 (by omega))
  have c0 := h.cell0
  clear h
  have t1 : decide ((F : Int) ≤ (f : Int)) = false := decide_eq_false (by omega)
  have t4 : ¬ F ≤ f := by omega
  have t5 : decide (F ≤ f) = false := decide_eq_false (by omega)
  have t6 : decide ((f : Int) < 0) = false := decide_eq_false (by omega)
  have t2 : IntKind.u64.wrap ((f : Int)) = (f : Int) := by simp [IntKind.wrap, IntKind.bits, IntKind.signed]; omega
  have t3 : IntKind.u64.wrap ((f : Int) * 256) = ((f * 256 : Nat) : Int) := by simp [IntKind.wrap, IntKind.bits, IntKind.signed]; omega
  generalize f * 256 = a at *
  have HF := Lib.hid hf; clear hf
  go_enter Tryz.func61, Tryz.ntmps61
  go_wp2_with fail
  refine HS.out.mono ?_
  rintro e w' ⟨g, off, cap, rfl, hm⟩
  have HM := Lib.hid hm; clear hm
  go_wp2_with fail
  go_ret2
  exact ⟨g, off, cap, rfl, HM.out⟩

theorem mem_frame_no (w : World) (p F t : Nat) (o : Option Nat) (V : Nat → Nat) (h : MemA w p o F V t) (f : Int) (hf : f < 0 ∨ (F : Int) ≤ f) :
    Calls Tryz.prog 61 #[.pointer (some ⟨p, 0, none⟩), .int .i64 f] w fun e w' => e = .returned (.tuple #[.slice none 0 0, .bool false]) ∧ w = w' := by
  have c0 := h.cell0
  clear h
  by_cases h0 : f < 0
  · clear hf
    go_enter Tryz.func61, Tryz.ntmps61
    go_wp2_with fail
    go_ret2
    exact ⟨rfl, rfl⟩
  · have t1 : decide ((F : Int) ≤ f) = true := decide_eq_true (by omega)
    clear hf
    go_enter Tryz.func61, Tryz.ntmps61
    go_wp2_with fail
    go_ret2
    exact ⟨rfl, rfl⟩

theorem Row.congr {w : World} {g n : Nat} {V V' : Nat → Nat} (h : Row w g n V) (e : ∀ i, i < n → V i = V' i) : Row w g n V' := by
  obtain ⟨cs, h1, h2, h3⟩ := h
  exact ⟨cs, h1, h2, fun i hi => by rw [h3 i hi, e i hi]⟩
theorem Row.set {w : World} {g n : Nat} {V : Nat → Nat} (h : Row w g n V) (i x : Nat) (hi : i < n) : Row (w.setCell ⟨g, i, none⟩ (.int .u8 x)) g n (fun j => if j = i then x else V j) := by
  obtain ⟨cs, h1, h2, h3⟩ := h
  refine ⟨_, h1.set i _, by simp [h2], fun j hj => ?_⟩
  rw [Array.getElem?_setIfInBounds]
  by_cases e : i = j
  · subst e
    simp [h2, hi]
  · have e2 : ¬ j = i := fun h => e h.symm
    simp [e, e2, h3 j hj]

theorem row_clear (g N : Nat) : ∀ (k o : Nat) (w : World) (V : Nat → Nat), Row w g N V → o + k ≤ N → Row (w.setCells g o (List.replicate k (.int .u8 0))) g N (putV V o k (fun _ => 0)) ∧ Chg (fun j => j = g) w (w.setCells g o (List.replicate k (.int .u8 0)))
  | 0, o, w, V, h, _ => by
    rw [putV_none]
    exact ⟨h, Chg.refl _ _⟩
  | k + 1, o, w, V, h, hfit => by
    have h1 := h.set o 0 (by omega)
    have ih := row_clear g N k (o + 1) _ _ h1 (by omega)
    refine ⟨ih.1.congr fun i hi => ?_, ((Chg.refl (fun j => j = g) w).setCell ⟨g, o, none⟩ (.int .u8 0) (.inl rfl)).trans ih.2⟩
    unfold putV
    by_cases e1 : i = o
    · subst e1
      rw [if_neg (by omega), if_pos (by omega)]
      simp
    · by_cases e2 : o + 1 ≤ i ∧ i < o + 1 + k
      · rw [if_pos e2, if_pos (by omega)]
      · rw [if_neg e2, if_neg (by omega)]
        simp [e1]
end Go.Proofs.YtijooajhjcfneaaGreat

namespace Go.Proofs.YtijooajhjcfneaaGreat
open Go.RowKit

theorem zeroU8 : ∀ w : World, (zeroValue ByT).run Tryz.prog w = .ok (.int .u8 0) w := by intro w; go_simp

theorem clear_frame (w : World) (p g F t : Nat) (V : Nat → Nat) (h : MemM w p g F V t) (at_ n cap : Nat) (hn : 0 < n) (hfit : at_ + n ≤ F * 256) :
    ∃ w' y, (Builtin.clear_ #[51] 0 #[.slice (some ⟨g, at_, none⟩) n cap]).run Tryz.prog w = .ok y w' ∧ MemM w' p g F (putV V at_ n (fun _ => 0)) t ∧ Chg (fun i => i = p ∨ i = g) w w' := by
  obtain ⟨cs, hb, hs, hv⟩ := h.row
  have hr := row_clear g (F * 256) n at_ w V h.row hfit
  refine ⟨_, _, Lib.run_clear_slice w 51 ByT 0 (.int .u8 0) Tryz.underlying51 zeroU8 rfl rfl g at_ n cap hn (fun j hj => ?_) (fun j hj => hb.free _), ⟨?_, hr.1, h.ne, putV_small h.small (fun _ => by omega)⟩, hr.2.mono fun _ h => .inr h⟩
  · rw [hb.cell, hv _ (by omega)]; rfl
  · exact hr.2.blk h.blk h.ne

set_option maxHeartbeats 800000 in
theorem mem_clear (w : World) (p F t : Nat) (hF : F ≤ 256) (o : Option Nat) (V : Nat → Nat) (h : MemA w p o F V t) (f : Nat) (hf : f < F) :
    Calls Tryz.prog 32 #[.pointer (some ⟨p, 0, none⟩), .int .i64 f] w (MemPost w p F t o (putV V (f * 256) 256 (fun _ => 0)) (.int .i64 0)) := by
  have HS := Lib.hid (mem_frame w p F t hF o V h f hf)
  clear h
  have HF := Lib.hid hf; clear hf
  go_enter Tryz.func32, Tryz.ntmps32
  go_wp2_with fail
  refine HS.out.mono ?_
  rintro e w' ⟨g, off, cap, rfl, h1, h2, h3, h4⟩
  obtain rfl := h1 (by omega)
  obtain ⟨w2, y, hcl, h5, h6⟩ := clear_frame w' p g F t V h2 (f * 256) 256 cap (by omega) (by have := HF.out; omega)
  have HM := Lib.hid (And.intro h3 (And.intro h4 (And.intro h5 h6))); clear h1 h2 h3 h4 h5 h6
  go_wp2_with fail
  go_ret
  exact ⟨g, rfl, HM.out.2.2.1, own_chg HM.out.1 HM.out.2.2.2 HM.out.2.1, HM.out.2.1⟩

theorem mem_clear_no (w : World) (p F t : Nat) (o : Option Nat) (V : Nat → Nat) (h : MemA w p o F V t) (f : Int) (hf : f < 0 ∨ (F : Int) ≤ f) :
    Calls Tryz.prog 32 #[.pointer (some ⟨p, 0, none⟩), .int .i64 f] w fun e w' => e = .returned (.int .i64 3) ∧ w = w' := by
  have HS := Lib.hid (mem_frame_no w p F t o V h f hf)
  clear h hf
  go_enter Tryz.func32, Tryz.ntmps32
  go_wp2_with fail
  refine HS.out.mono ?_
  rintro e w' ⟨rfl, rfl⟩
  go_wp2_with fail
  go_ret
  exact ⟨rfl, rfl⟩

theorem copy_frame (w : World) (p g F t : Nat) (V : Nat → Nat) (h : MemM w p g F V t) (a b n c1 c2 : Nat) (_hn : 0 < n) (ha : a + n ≤ F * 256) (hb : b + n ≤ F * 256) :
    ∃ w', (Builtin.copy_ #[51, 51] 3 #[.slice (some ⟨g, a, none⟩) n c1, .slice (some ⟨g, b, none⟩) n c2]).run Tryz.prog w = .ok (goInt n) w' ∧ MemM w' p g F (putV V a n (fun i => V (b + i))) t ∧ Chg (fun i => i = p ∨ i = g) w w' := by
  obtain ⟨cs, hbk, hs, hv⟩ := h.row
  have hl : ((List.range n).map fun i => Value.int .u8 (V (b + i) : Nat)).length = n := by simp
  have hr := run_copy_row (P := Tryz.prog) w 51 51 3 ByT g a n c1 ⟨g, b, none⟩ n c2 cs ByT ((List.range n).map fun i => Value.int .u8 (V (b + i) : Nat)) Tryz.underlying51 infoU8s hbk (by rw [hl]; exact (Nat.min_self n).symm) (fun j v hj => ?_) (by rw [hl]; omega) (fun v hv => by simp only [List.mem_map] at hv; obtain ⟨_, _, rfl⟩ := hv; rfl)
  · rw [hl] at hr
    refine ⟨_, hr, ⟨(chg_setRow (S := fun k => k = g) (Chg.refl _ w) (.inl rfl)).blk h.blk h.ne, row_put hbk hs hv a n (fun i => V (b + i)) _ hl (fun j hj => by simp [hj]) ha, h.ne, putV_small h.small (fun _ => h.small _)⟩, chg_setRow (Chg.refl _ _) (.inl (.inr rfl))⟩
  · have hj2 : j < n := by
      have := List.getElem?_eq_some_iff.mp hj
      obtain ⟨h1, _⟩ := this
      simpa using h1
    simp [hj2] at hj
    subst hj
    have hadd : (⟨g, b, none⟩ : Addr).add j = ⟨g, b + j, none⟩ := by unfold Addr.add; split <;> simp_all
    rw [hadd, hbk.cell, hv _ (by omega)]

/-- what a call on a memory leaves, however it ends -/
def MemK (w : World) (p F t : Nat) (o : Option Nat) (V : Nat → Nat) (v : Value) (e : Ending) (w' : World) : Prop :=
  e = .returned v ∧ ∃ o', MemA w' p o' F V t ∧ Chg (MemOwn p o) w w' ∧ ∀ k, MemOwn p o' k → MemOwn p o k ∨ w.heap.size ≤ k

theorem MemPost.keep {w w' : World} {p F t : Nat} {o : Option Nat} {V : Nat → Nat} {v : Value} {e : Ending} (h : MemPost w p F t o V v e w') : MemK w p F t o V v e w' := by
  obtain ⟨g, he, hm, hc, ho⟩ := h
  refine ⟨he, some g, .made hm, hc, ?_⟩
  rintro k (rfl | hk)
  · exact .inl (.inl rfl)
  · cases hk
    rcases ho with ho | ho
    · exact .inl (.inr ho)
    · exact .inr ho.2

theorem MemA.keep {w : World} {p F t : Nat} {o : Option Nat} {V : Nat → Nat} {v : Value} (h : MemA w p o F V t) : MemK w p F t o V v (.returned v) w :=
  ⟨rfl, o, h, Chg.refl _ _, fun _ h => .inl h⟩

theorem Span.keep {w w' : World} {p g F t : Nat} {o : Option Nat} {V : Nat → Nat} {v : Value} (h : MemM w' p g F V t) (hc : Chg (fun k => k = p) w w') (ho : o = some g ∨ o = none ∧ w.heap.size ≤ g) : MemK w p F t o V v (.returned v) w' :=
  MemPost.keep ⟨g, rfl, h, chg_own hc, ho⟩

end Go.Proofs.YtijooajhjcfneaaGreat

namespace Go.Proofs.YtijooajhjcfneaaGreat
open Go.RowKit

def cdL (F at_ : Nat) (n : Int) : Int := if wSized n = true then (if at_ + n.toNat ≤ F * 256 then 0 else 3) else 1
def ldV (F : Nat) (V : Nat → Nat) (at_ : Nat) (n : Int) : Nat := if cdL F at_ n = 0 then wOf (memStr V at_ n.toNat) else 0
def tc (F at_ : Nat) (n : Int) (t : Nat) : Nat := if cdL F at_ n = 0 then (t + 1) % 18446744073709551616 else t
def stV (F : Nat) (V : Nat → Nat) (at_ : Nat) (n : Int) (v : Nat) : Nat → Nat := if cdL F at_ n = 0 then putV V at_ n.toNat (byt (wBytes v n)) else V
def cdG (F at_ : Nat) (n : Int) : Int := if n < 0 then 1 else if at_ + n.toNat ≤ F * 256 then 0 else 3
def gtS (F : Nat) (V : Nat → Nat) (at_ : Nat) (n : Int) : ByteArray := if cdG F at_ n = 0 then memStr V at_ n.toNat else ByteArray.empty
def cdP (F at_ : Nat) (s : ByteArray) : Int := if at_ + s.size ≤ F * 256 then 0 else 3
def ptV (F : Nat) (V : Nat → Nat) (at_ : Nat) (s : ByteArray) : Nat → Nat := if cdP F at_ s = 0 then putV V at_ s.size (byt s) else V
def cdF (F : Nat) (f : Int) : Int := if 0 ≤ f ∧ f < F then 0 else 3
def clV (F : Nat) (V : Nat → Nat) (f : Int) : Nat → Nat := if cdF F f = 0 then putV V (f.toNat * 256) 256 (fun _ => 0) else V
def cdC (F : Nat) (a b : Int) : Int := if 0 ≤ a ∧ a < F ∧ 0 ≤ b ∧ b < F then 0 else 3
def cpV (F : Nat) (V : Nat → Nat) (a b : Int) : Nat → Nat := if cdC F a b = 0 then putV V (a.toNat * 256) 256 (fun i => V (b.toNat * 256 + i)) else V

theorem keep_same {P : Program} {f : FuncId} {args : Array Value} {w : World} {p F t : Nat} {o : Option Nat} {V : Nat → Nat} {v : Value} (h : MemA w p o F V t)
    (c : Calls P f args w fun e w' => e = .returned v ∧ w = w') : Calls P f args w (MemK w p F t o V v) :=
  c.mono fun _ _ ⟨he, hw⟩ => by subst he hw; exact h.keep

theorem m_load (w : World) (p F t : Nat) (hF : F ≤ 256) (ht : t < 18446744073709551616) (o : Option Nat) (V : Nat → Nat) (h : MemA w p o F V t) (at_ : Nat) (hw : at_ < 18446744073709551616) (n : Int) :
    Calls Tryz.prog 57 #[.pointer (some ⟨p, 0, none⟩), .int .u64 at_, .int .i64 n] w (MemK w p F (tc F at_ n t) o V (.tuple #[.int .u64 (ldV F V at_ n : Nat), .int .i64 (cdL F at_ n)])) := by
  by_cases hs : wSized n = true
  · have hn := wSized_le hs
    obtain ⟨m, rfl⟩ := Int.eq_ofNat_of_zero_le (show 0 ≤ n by omega)
    by_cases hf : at_ + m ≤ F * 256
    · have e : cdL F at_ (m : Int) = 0 := by simp [cdL, hs, hf]
      simp only [tc, ldV, e, if_true, Int.toNat_natCast]
      exact (mem_load w p F t hF ht o V h at_ m hs hf).mono fun _ _ h => h.keep
    · have e : cdL F at_ (m : Int) = 3 := by simp [cdL, hs, hf]
      simp only [tc, ldV, e]
      exact (mem_load_no w p F t hF o V h at_ m hw hs (by omega)).mono fun _ _ h => h.keep
  · have e : cdL F at_ n = 1 := by simp [cdL, hs]
    simp only [tc, ldV, e]
    exact keep_same h (mem_load_arg w p at_ n (by simpa using hs))

theorem m_store (w : World) (p F t : Nat) (hF : F ≤ 256) (ht : t < 18446744073709551616) (o : Option Nat) (V : Nat → Nat) (h : MemA w p o F V t) (at_ : Nat) (hw : at_ < 18446744073709551616) (n : Int) (v : Nat) (hv : v < 18446744073709551616) :
    Calls Tryz.prog 83 #[.pointer (some ⟨p, 0, none⟩), .int .u64 at_, .int .i64 n, .int .u64 v] w (MemK w p F (tc F at_ n t) o (stV F V at_ n v) (.int .i64 (cdL F at_ n))) := by
  by_cases hs : wSized n = true
  · have hn := wSized_le hs
    obtain ⟨m, rfl⟩ := Int.eq_ofNat_of_zero_le (show 0 ≤ n by omega)
    by_cases hf : at_ + m ≤ F * 256
    · have e : cdL F at_ (m : Int) = 0 := by simp [cdL, hs, hf]
      simp only [tc, stV, e, if_true, Int.toNat_natCast]
      exact (mem_store w p F t hF ht o V h at_ m v hv hs hf).mono fun _ _ h => h.keep
    · have e : cdL F at_ (m : Int) = 3 := by simp [cdL, hs, hf]
      simp only [tc, stV, e]
      exact (mem_store_no w p F t hF o V h at_ m v hw hs (by omega)).mono fun _ _ h => h.keep
  · have e : cdL F at_ n = 1 := by simp [cdL, hs]
    simp only [tc, stV, e]
    exact keep_same h (mem_store_arg w p at_ v n (by simpa using hs))

theorem m_get (w : World) (p F t : Nat) (hF : F ≤ 256) (o : Option Nat) (V : Nat → Nat) (h : MemA w p o F V t) (at_ : Nat) (hw : at_ < 18446744073709551616) (n : Int) (hn : n ≤ 9223372036854775807) :
    Calls Tryz.prog 15 #[.pointer (some ⟨p, 0, none⟩), .int .u64 at_, .int .i64 n] w (MemK w p F t o V (.tuple #[.string (gtS F V at_ n), .int .i64 (cdG F at_ n)])) := by
  by_cases h0 : n < 0
  · have e : cdG F at_ n = 1 := by simp [cdG, h0]
    simp only [gtS, e]
    exact keep_same h (mem_get_neg w p at_ n h0)
  · obtain ⟨m, rfl⟩ := Int.eq_ofNat_of_zero_le (show 0 ≤ n by omega)
    by_cases hf : at_ + m ≤ F * 256
    · have e : cdG F at_ (m : Int) = 0 := by simp [cdG, hf]
      simp only [gtS, e, if_true, Int.toNat_natCast]
      exact (mem_get w p F t hF o V h at_ m hf).mono fun _ _ h => h.keep
    · have e : cdG F at_ (m : Int) = 3 := by simp [cdG, hf]
      simp only [gtS, e]
      exact (mem_get_no w p F t hF o V h at_ m hw (by omega) (by omega)).mono fun _ _ h => h.keep

theorem m_put (w : World) (p F t : Nat) (hF : F ≤ 256) (o : Option Nat) (V : Nat → Nat) (h : MemA w p o F V t) (at_ : Nat) (hw : at_ < 18446744073709551616) (s : ByteArray) (hs : s.size ≤ maxLen) :
    Calls Tryz.prog 44 #[.pointer (some ⟨p, 0, none⟩), .int .u64 at_, .string s] w (MemK w p F t o (ptV F V at_ s) (.int .i64 (cdP F at_ s))) := by
  by_cases hf : at_ + s.size ≤ F * 256
  · have e : cdP F at_ s = 0 := by simp [cdP, hf]
    simp only [ptV, e, if_true]
    exact (mem_put w p F t hF o V h at_ s hf).mono fun _ _ h => h.keep
  · have e : cdP F at_ s = 3 := by simp [cdP, hf]
    simp only [ptV, e]
    exact (mem_put_no w p F t hF o V h at_ hw s hs (by omega)).mono fun _ _ h => h.keep

theorem m_clear (w : World) (p F t : Nat) (hF : F ≤ 256) (o : Option Nat) (V : Nat → Nat) (h : MemA w p o F V t) (f : Int) :
    Calls Tryz.prog 32 #[.pointer (some ⟨p, 0, none⟩), .int .i64 f] w (MemK w p F t o (clV F V f) (.int .i64 (cdF F f))) := by
  by_cases hf : 0 ≤ f ∧ f < F
  · obtain ⟨m, rfl⟩ := Int.eq_ofNat_of_zero_le hf.1
    have e : cdF F (m : Int) = 0 := by unfold cdF; rw [if_pos hf]
    simp only [clV, e, if_true, Int.toNat_natCast]
    exact (mem_clear w p F t hF o V h m (by omega)).mono fun _ _ h => h.keep
  · have e : cdF F f = 3 := by unfold cdF; rw [if_neg hf]
    simp only [clV, e]
    exact keep_same h (mem_clear_no w p F t o V h f (by omega))

/-- a memory whose blocks are all new since B -/
def MS (B : Nat) (w : World) (p F : Nat) (V : Nat → Nat) (t : Nat) : Prop := ∃ o, MemA w p o F V t ∧ ∀ k, MemOwn p o k → B ≤ k
/-- a step that changes nothing older than B -/
def StepS (B : Nat) (w : World) (p F : Nat) (V : Nat → Nat) (t : Nat) (v : Value) (e : Ending) (w' : World) : Prop := e = .returned v ∧ MS B w' p F V t ∧ Below B w w'

theorem MemK.ms {B : Nat} {w w' : World} {p F t t0 : Nat} {o : Option Nat} {V V0 : Nat → Nat} {v : Value} {e : Ending} (h : MemK w p F t o V v e w') (h0 : MemA w p o F V0 t0) (hB : ∀ k, MemOwn p o k → B ≤ k) : StepS B w p F V t v e w' := by
  obtain ⟨he, o', hm, hc, hk⟩ := h
  have hp : B ≤ w.heap.size := Nat.le_of_lt (Nat.lt_of_le_of_lt (hB p (.inl rfl)) (h0.lt p (.inl rfl)))
  exact ⟨he, ⟨o', hm, fun k h => (hk k h).elim (hB k) (fun h => by omega)⟩, hc.below hp hB⟩

theorem s_load {B : Nat} {w : World} {p F t : Nat} {V : Nat → Nat} (h : MS B w p F V t) (hF : F ≤ 256) (ht : t < 18446744073709551616) (at_ : Nat) (hw : at_ < 18446744073709551616) (n : Int) :
    Calls Tryz.prog 57 #[.pointer (some ⟨p, 0, none⟩), .int .u64 at_, .int .i64 n] w (StepS B w p F V (tc F at_ n t) (.tuple #[.int .u64 (ldV F V at_ n : Nat), .int .i64 (cdL F at_ n)])) := by
  obtain ⟨o, hm, hB⟩ := h
  exact (m_load w p F t hF ht o V hm at_ hw n).mono fun _ _ h => h.ms hm hB
theorem s_store {B : Nat} {w : World} {p F t : Nat} {V : Nat → Nat} (h : MS B w p F V t) (hF : F ≤ 256) (ht : t < 18446744073709551616) (at_ : Nat) (hw : at_ < 18446744073709551616) (n : Int) (v : Nat) (hv : v < 18446744073709551616) :
    Calls Tryz.prog 83 #[.pointer (some ⟨p, 0, none⟩), .int .u64 at_, .int .i64 n, .int .u64 v] w (StepS B w p F (stV F V at_ n v) (tc F at_ n t) (.int .i64 (cdL F at_ n))) := by
  obtain ⟨o, hm, hB⟩ := h
  exact (m_store w p F t hF ht o V hm at_ hw n v hv).mono fun _ _ h => h.ms hm hB
theorem s_get {B : Nat} {w : World} {p F t : Nat} {V : Nat → Nat} (h : MS B w p F V t) (hF : F ≤ 256) (at_ : Nat) (hw : at_ < 18446744073709551616) (n : Int) (hn : n ≤ 9223372036854775807) :
    Calls Tryz.prog 15 #[.pointer (some ⟨p, 0, none⟩), .int .u64 at_, .int .i64 n] w (StepS B w p F V t (.tuple #[.string (gtS F V at_ n), .int .i64 (cdG F at_ n)])) := by
  obtain ⟨o, hm, hB⟩ := h
  exact (m_get w p F t hF o V hm at_ hw n hn).mono fun _ _ h => h.ms hm hB
theorem s_put {B : Nat} {w : World} {p F t : Nat} {V : Nat → Nat} (h : MS B w p F V t) (hF : F ≤ 256) (at_ : Nat) (hw : at_ < 18446744073709551616) (s : ByteArray) (hs : s.size ≤ maxLen) :
    Calls Tryz.prog 44 #[.pointer (some ⟨p, 0, none⟩), .int .u64 at_, .string s] w (StepS B w p F (ptV F V at_ s) t (.int .i64 (cdP F at_ s))) := by
  obtain ⟨o, hm, hB⟩ := h
  exact (m_put w p F t hF o V hm at_ hw s hs).mono fun _ _ h => h.ms hm hB
theorem s_clear {B : Nat} {w : World} {p F t : Nat} {V : Nat → Nat} (h : MS B w p F V t) (hF : F ≤ 256) (f : Int) :
    Calls Tryz.prog 32 #[.pointer (some ⟨p, 0, none⟩), .int .i64 f] w (StepS B w p F (clV F V f) t (.int .i64 (cdF F f))) := by
  obtain ⟨o, hm, hB⟩ := h
  exact (m_clear w p F t hF o V hm f).mono fun _ _ h => h.ms hm hB
theorem s_frames {B : Nat} {w : World} {p F t : Nat} {V : Nat → Nat} (h : MS B w p F V t) :
    Calls Tryz.prog 31 #[.pointer (some ⟨p, 0, none⟩)] w fun e w' => e = .returned (.int .i64 F) ∧ w = w' := by
  obtain ⟨o, hm, hB⟩ := h
  exact phys_frames w p F t o V hm
/-- New -/
theorem s_new (B : Nat) (w : World) (hB : B ≤ w.heap.size) (F : Int) (h0 : 1 ≤ F) (h1 : F ≤ 256) :
    Calls Tryz.prog 8 #[.int .i64 F] w (StepS B w w.heap.size F.toNat (fun _ => 0) 0 (.tuple #[.pointer (some ⟨w.heap.size, 0, none⟩), .int .i64 0])) :=
  (phys_new w F h0 h1).mono fun _ _ ⟨he, hm, hc, _⟩ => ⟨he, ⟨none, .un hm, fun k hk => by rcases hk with rfl | hk; exact hB; exact absurd hk (by simp)⟩, hc.below hB (fun _ h => h.elim)⟩
end Go.Proofs.YtijooajhjcfneaaGreat

namespace Go.Proofs.YtijooajhjcfneaaGreat
open Go.RowKit

theorem strOfNums_append (xs ys : List Int) : strOfNums (xs ++ ys) = strOfNums xs ++ strOfNums ys := by
  apply ByteArray.ext
  simp [strOfNums, ByteArray.data_append]

theorem conv_one (W : World) (x : Int) : (convert 51 9 (.slice (some ⟨W.heap.size, 0, none⟩) 1 1)).run Tryz.prog (W.alloc (.cells #[.int .u8 x] 5)) = .ok (.string (strOfNums [x])) (W.alloc (.cells #[.int .u8 x] 5)) := by
  refine run_convert_bytes_arg _ 51 5 Tryz.underlying51 Tryz.underlying5 W.heap.size 0 1 1 [x] rfl (fun i hi => ?_) 9 Tryz.underlying9
  obtain rfl : i = 0 := by omega
  exact cell_one_new _ _ _ 0 _ rfl

theorem add_byte (W : World) (v k y : Nat) (hk : k ≤ 8) (hy : y = v / 256 ^ k) : (Op.stringOp .add (strOfNums (wBy v k)) (strOfNums [(y : Int) % 256])).run Tryz.prog W = .ok (.string (strOfNums (wBy v (k + 1)))) W := by
  rw [run_string_add_sum W _ _ (by rw [strOfNums_size, strOfNums_size, wBy_len]; simp; omega), wBy_snoc, strOfNums_append, hy]
  simp

def RByAt (w : World) (v k x : Nat) (wr : World) : Prop := x = v / 256 ^ k ∧ Chg (fun _ => False) w wr

set_option maxHeartbeats 800000 in
theorem ref_bytes (w : World) (v : Nat) (hv : v < 18446744073709551616) (n : Int) :
    Calls Tryz.prog 91 #[.int .u64 v, .int .i64 n] w fun e w' => e = .returned (.string (wBytes v n)) ∧ Chg (fun _ => False) w w' := by
  unfold wBytes
  obtain ⟨N, hN⟩ : ∃ N, N = wCount n := ⟨_, rfl⟩
  rw [← hN]
  have hN2 : N ≤ 8 ∧ ∀ k : Nat, k ≤ N → (((k : Int) < n ∧ k < 8) ↔ k < N) := by
    unfold wCount at hN
    refine ⟨by omega, fun k hk => by omega⟩
  have HV := Lib.hid (show v ≤ 18446744073709551615 by omega)
  clear hv hN
  obtain ⟨h8, hN3⟩ := hN2
  have HN3 := Lib.hid hN3
  clear hN3
  go_enter Tryz.func91, Tryz.ntmps91
  go_wp2_with fail
  go_loopw [0, 5, 6] (fun x sv i wr => ∃ k y : Nat, k ≤ N ∧ y ≤ 18446744073709551615 ∧ x = .int .u64 (y : Int) ∧ Hid (sv = .string (strOfNums (wBy v k))) ∧ i = .int .i64 k ∧ Hid (RByAt w v k y wr)) (fun _ _ i _ => N - (intOf i).toNat)
  case atStart => exact ⟨0, v, Nat.zero_le _, HV.out, rfl, rfl, rfl, by simp, Chg.refl _ _⟩
  case round =>
    obtain ⟨k, y, hk, hy, rfl, hsv, rfl, HB⟩ := hrel
    obtain rfl := hsv.out
    clear hsv
    have lt0 : k < N ∨ k = N := by omega
    rcases lt0 with hlt | hlt
    · have t := (HN3.out k hk).mpr hlt
      have t1 : decide ((k : Int) < n) = true := decide_eq_true t.1
      have t2 : k < 8 := t.2
      clear t
      have hyw : IntKind.u8.wrap ((y : Int) % 256) = (y : Int) % 256 := by simp [IntKind.wrap, IntKind.bits, IntKind.signed]
      have hyq : IntKind.u64.wrap ((y : Int) / 256) = (y : Int) / 256 := by rw [u64_wrap]; omega
      have hcv := fun W => conv_one W ((y : Int) % 256)
      have had := fun W => add_byte W v k y (by omega) HB.out.1
      have HC := Lib.hid HB.out.2
      have hx : y / 256 = v / 256 ^ (k + 1) := by rw [HB.out.1, Nat.pow_succ, Nat.div_div_eq_div_mul]
      have HX := Lib.hid hx; clear hx HB
      generalize hs2 : strOfNums (wBy v (k + 1)) = s2 at *
      have HS := Lib.hid hs2; clear hs2
      generalize strOfNums (wBy v k) = s1 at *
      go_wp2_with fail
      go_roundw
      case rel => exact ⟨k + 1, y / 256, by omega, by omega, by go_num, Lib.hid (congrArg Value.string HS.out.symm), by go_num, HX.out, HC.out.alloc _⟩
      case measure => simp [intOf]; omega
    · subst hlt
      have HC := Lib.hid HB.out.2
      have t := HN3.out k (by omega)
      clear HB
      generalize hs2 : strOfNums (wBy v k) = s2 at *
      have HS := Lib.hid hs2; clear hs2
      by_cases t1 : (k : Int) < n
      · have t3 : ¬ k < 8 := by omega
        have t2 : decide ((k : Int) < n) = true := decide_eq_true t1
        clear t1 t
        go_wp2_with fail
        go_ret
        exact ⟨ret_str HS.out.symm, HC.out⟩
      · have t2 : decide ((k : Int) < n) = false := decide_eq_false t1
        clear t
        go_wp2_with fail
        go_ret
        exact ⟨ret_str HS.out.symm, HC.out⟩

theorem of_down (s : ByteArray) (N k v : Nat) (_hk : k < N) (h : wOfN s N = wOfN s (k + 1) + v * 256 ^ (k + 1)) : wOfN s N = wOfN s k + (v * 256 + byt s k) * 256 ^ k := by
  rw [h, wOfN, Nat.pow_succ, Nat.add_mul, Nat.mul_assoc v 256, Nat.mul_comm 256 (256 ^ k)]
  omega

def ROf (s : ByteArray) (N k v : Nat) : Prop := wOfN s N = wOfN s k + v * 256 ^ k ∧ v < 256 ^ (N - k)

theorem ROf.next {s : ByteArray} {N k v : Nat} (h : ROf s N (k + 1) v) (hk : k < N) : ROf s N k (v * 256 + byt s k) := by
  refine ⟨of_down s N k v hk h.1, ?_⟩
  have hb := byt_lt s k
  have h2 := h.2
  rw [show N - k = N - (k + 1) + 1 from by omega, Nat.pow_succ]
  omega

/-- the loop's state -/
def RfI (s : ByteArray) (N : Nat) (x i : Value) : Prop :=
  (∃ k v : Nat, x = .int .u64 (v : Int) ∧ i = .int .i64 (k : Int) ∧ k < N ∧ ROf s N (k + 1) v) ∨ (x = .int .u64 ((wOfN s N : Nat) : Int) ∧ i = .int .i64 (-1))
theorem RfI.step {s : ByteArray} {N k v : Nat} {x i : Int} (h : ROf s N (k + 1) v) (hk : k < N) (hx : x = ((v * 256 + byt s k : Nat) : Int)) (hi : i = (k : Int) - 1) : RfI s N (.int .u64 x) (.int .i64 i) := by
  have h2 := h.next hk
  subst hx hi
  rcases k with _ | k
  · right
    refine ⟨?_, by simp⟩
    have := h2.1
    rw [Nat.pow_zero, Nat.mul_one, wOfN, Nat.zero_add] at this
    rw [this]
  · left
    exact ⟨k, _, rfl, by congr 1; omega, by omega, h2⟩
theorem RfI.start (s : ByteArray) (N : Nat) {i : Int} (hi : i = (N : Int) - 1) : RfI s N (.int .u64 0) (.int .i64 i) := by
  subst hi
  rcases N with _ | N
  · right
    exact ⟨rfl, by simp⟩
  · left
    exact ⟨N, 0, rfl, by congr 1; omega, by omega, by simp [ROf]⟩
theorem rof_lt {s : ByteArray} {N k v : Nat} (h : ROf s N (k + 1) v) (h8 : N ≤ 8) (hk : k < N) : v < 72057594037927936 := by
  have : 256 ^ (N - (k + 1)) ≤ 256 ^ 7 := Nat.pow_le_pow_right (by omega) (by omega)
  have := h.2
  omega

set_option maxHeartbeats 800000 in
theorem ref_of (w : World) (s : ByteArray) (hm : s.size ≤ maxLen) :
    Calls Tryz.prog 96 #[.string s] w fun e w' => e = .returned (.int .u64 (wOf s : Nat)) ∧ w = w' := by
  unfold maxLen at hm
  unfold wOf
  rcases (show s.size ≤ 8 ∨ 8 < s.size by omega) with c1 | c1
  all_goals
    first
    | rw [Nat.min_eq_left c1]
    | rw [Nat.min_eq_right (by omega)]
    go_enter Tryz.func96, Tryz.ntmps96
    go_wp2_with fail
    first
    | (have c2 : 8 < s.size := c1
       go_loop [3, 5] (fun x i => Hid (RfI s 8 x i)) (fun _ i => (intOf i + 1).toNat)
       case atStart => exact RfI.start s 8 (by rfl))
    | (go_loop [3, 5] (fun x i => Hid (RfI s s.size x i)) (fun _ i => (intOf i + 1).toNat)
       case atStart => exact RfI.start s s.size (by rfl))
    rcases hrel.out with ⟨k, v, rfl, rfl, hk, hr⟩ | ⟨rfl, rfl⟩
    · have hks : k < s.size := by omega
      have hv := rof_lt hr (by omega) hk
      have hb := byt_lt s k
      have F : IntKind.u64.wrap ((v : Int) * 256) = (v : Int) * 256 := by rw [u64_wrap]; omega
      have F2 : IntKind.u64.wrap ((s[k].toNat : Int)) = ((byt s k : Nat) : Int) := by rw [byt_get s k hks, u64_wrap]; omega
      have F3 : IntKind.u64.wrap ((v : Int) * 256 + ((byt s k : Nat) : Int)) = (v : Int) * 256 + ((byt s k : Nat) : Int) := by rw [u64_wrap]; omega
      have HR := Lib.hid hr; have HB := Lib.hid hb; have HV := Lib.hid hv
      clear hr hb hv
      go_wp2_with fail
      exact ⟨RfI.step HR.out hk (by omega) (by first | rfl | omega), by simp [intOf]⟩
    · go_wp2_with fail
      go_ret
      exact ⟨rfl, rfl⟩
end Go.Proofs.YtijooajhjcfneaaGreat
