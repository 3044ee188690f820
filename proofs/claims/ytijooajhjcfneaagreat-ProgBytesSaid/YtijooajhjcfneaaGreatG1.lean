/-
  Several texts in one: Wd, OnceB, Once2, WordP, WdBytes, WdOf, Mem1, Mem2.
-/
import Derived.Test.YtijooajhjcfneaaGreatRows
import Derived.Below
import Derived.OneCell
import Derived.WalkKit
import Derived.Lib.Hide
import Derived.Deep.QuietTactic
import Derived.BigQuiet
import Derived.Deep.RegionHeld3
import Derived.Deep.DeepFit
import Derived.Outline
import Derived.Laws.LoneSync
import Derived.Laws.NewBlocks
import Derived.RegionTactic
import Derived.ChangeAlike
import Derived.IntWalk
import Derived.Tactics
import Derived.Tactics2
import Derived.Defers
import Derived.Laws.Pointers
import Derived.RegionCalls
import Derived.Maps.AppendAt
import Derived.Laws.BytesArg
import Derived.Laws.MakeOwn
namespace Go.Proofs.YtijooajhjcfneaaGreat
open Go.RowKit

/-- block b holds just these cells, none frozen -/
def Blk (w : World) (b : Nat) (cs : Array Value) (t : TypeId) : Prop := w.heap[b]? = some (.cells cs t (0, 0))

theorem Blk.cell {w : World} {b : Nat} {cs : Array Value} {t : TypeId} (h : Blk w b cs t) (i : Nat) : w.cell? ⟨b, i, none⟩ = cs[i]? := by
  unfold Blk at h; simp [World.cell?, h]
theorem Blk.cellv {w : World} {b : Nat} {cs : Array Value} {t : TypeId} (h : Blk w b cs t) (i : Nat) (v : Value) (hv : cs[i]? = some v) : w.cell? ⟨b, i, none⟩ = some v := by
  rw [h.cell i, hv]
theorem Blk.free {w : World} {b : Nat} {cs : Array Value} {t : TypeId} (h : Blk w b cs t) (i : Nat) : w.frozen? ⟨b, i, none⟩ = false := by
  unfold Blk at h; simp [World.frozen?, h]
theorem Blk.lt {w : World} {b : Nat} {cs : Array Value} {t : TypeId} (h : Blk w b cs t) : b < w.heap.size := lt_of_block h
theorem Blk.set {w : World} {b : Nat} {cs : Array Value} {t : TypeId} (h : Blk w b cs t) (i : Nat) (v : Value) : Blk (w.setCell ⟨b, i, none⟩ v) b (cs.setIfInBounds i v) t := by
  have hlt := h.lt
  unfold Blk at h ⊢
  have h' : w.heap[b] = .cells cs t (0, 0) := by simpa [Array.getElem?_eq_getElem hlt] using h
  show (w.heap.modify b _)[b]? = _
  rw [Array.getElem?_eq_getElem (by simpa using hlt), Array.getElem_modify_self, h']
  rfl
theorem Blk.setOther {w : World} {b : Nat} {cs : Array Value} {t : TypeId} (h : Blk w b cs t) (a : Addr) (v : Value) (hne : b ≠ a.block) : Blk (w.setCell a v) b cs t := by
  unfold Blk at h ⊢
  rw [Below.heap_setCell _ _ _ _ hne]; exact h
theorem Blk.alloc {w : World} {b : Nat} {cs : Array Value} {t : TypeId} (h : Blk w b cs t) (o : Obj) : Blk (w.alloc o) b cs t := by
  have hlt := h.lt
  unfold Blk at h ⊢
  rw [Below.heap_alloc _ _ _ hlt]; exact h
theorem Blk.drew {w : World} {b : Nat} {cs : Array Value} {t : TypeId} (h : Blk w b cs t) : Blk w.drew b cs t := h
theorem Blk.new (w : World) (cs : Array Value) (t : TypeId) : Blk (w.alloc (.cells cs t)) w.heap.size cs t := heap_alloc_new w _

/-- no block but those of S has changed among those that there were -/
structure Chg (S : Nat → Prop) (w w' : World) : Prop where
  os : w'.os = w.os
  tape : w'.tape = w.tape
  output : w'.output = w.output
  size : w.heap.size ≤ w'.heap.size
  block : ∀ k, k < w.heap.size → ¬ S k → w'.heap[k]? = w.heap[k]?

theorem Chg.refl (S : Nat → Prop) (w : World) : Chg S w w := ⟨rfl, rfl, rfl, Nat.le_refl _, fun _ _ _ => rfl⟩
theorem Chg.trans {S : Nat → Prop} {a b c : World} (h : Chg S a b) (k : Chg S b c) : Chg S a c :=
  ⟨k.os.trans h.os, k.tape.trans h.tape, k.output.trans h.output, Nat.le_trans h.size k.size,
   fun i hi hs => (k.block i (Nat.lt_of_lt_of_le hi h.size) hs).trans (h.block i hi hs)⟩
/-- the second step may also change what is new -/
theorem Chg.trans' {S S' : Nat → Prop} {a b c : World} (h : Chg S a b) (k : Chg S' b c) (hs : ∀ i, S' i → S i ∨ a.heap.size ≤ i) : Chg S a c :=
  ⟨k.os.trans h.os, k.tape.trans h.tape, k.output.trans h.output, Nat.le_trans h.size k.size,
   fun i hi hn => (k.block i (Nat.lt_of_lt_of_le hi h.size) (fun h' => (hs i h').elim hn (fun h'' => by omega))).trans (h.block i hi hn)⟩
theorem Chg.mono {S S' : Nat → Prop} {a b : World} (h : Chg S a b) (hs : ∀ i, S i → S' i) : Chg S' a b :=
  ⟨h.os, h.tape, h.output, h.size, fun i hi hn => h.block i hi (fun x => hn (hs i x))⟩
theorem Chg.drew {S : Nat → Prop} {a b : World} (h : Chg S a b) : Chg S a b.drew := ⟨h.os, h.tape, h.output, h.size, h.block⟩
theorem Chg.drewN {S : Nat → Prop} {a b : World} (h : Chg S a b) (n : Nat) : Chg S a (b.drewN n) := ⟨h.os, h.tape, h.output, h.size, h.block⟩
theorem Chg.alloc {S : Nat → Prop} {a b : World} (h : Chg S a b) (o : Obj) : Chg S a (b.alloc o) :=
  ⟨h.os, h.tape, h.output, by simp; have := h.size; omega, fun i hi hn => (Below.heap_alloc _ _ _ (Nat.lt_of_lt_of_le hi h.size)).trans (h.block i hi hn)⟩
theorem Chg.setCell {S : Nat → Prop} {a b : World} (h : Chg S a b) (p : Addr) (v : Value) (hp : S p.block ∨ a.heap.size ≤ p.block) : Chg S a (b.setCell p v) :=
  ⟨h.os, h.tape, h.output, by simp; exact h.size, fun i hi hn => (Below.heap_setCell _ _ _ _ (fun e => by rcases hp with hp | hp; exact hn (e ▸ hp); omega)).trans (h.block i hi hn)⟩
theorem Chg.grown {S : Nat → Prop} {a b c : World} {row : Option Nat} (h : Chg S a b) (g : b.grownBy c row) (hr : ∀ k, row = some k → S k ∨ a.heap.size ≤ k) : Chg S a c :=
  ⟨g.os.trans h.os, g.tape.trans h.tape, g.output.trans h.output, Nat.le_trans h.size g.size,
   fun i hi hn => (g.block i (Nat.lt_of_lt_of_le hi h.size) (fun e => by rcases hr i e.symm with h' | h'; exact hn h'; omega)).trans (h.block i hi hn)⟩
theorem Chg.below {S : Nat → Prop} {a b : World} {B : Nat} (h : Chg S a b) (hB : B ≤ a.heap.size) (hS : ∀ i, S i → B ≤ i) : Below B a b :=
  ⟨h.os, h.tape, h.output, h.size, fun k hk => h.block k (by omega) (fun x => by have := hS k x; omega)⟩
theorem Chg.blk {S : Nat → Prop} {a b : World} (h : Chg S a b) {k : Nat} {cs : Array Value} {t : TypeId} (hb : Blk a k cs t) (hn : ¬ S k) : Blk b k cs t := by
  have := hb.lt
  unfold Blk at hb ⊢
  rw [h.block k this hn]; exact hb
theorem Chg.cell {S : Nat → Prop} {a b : World} (h : Chg S a b) {p : Addr} (hp : p.block < a.heap.size) (hn : ¬ S p.block) : b.cell? p = a.cell? p := World.cell?_of_block (w := a) (h.block p.block hp hn)
theorem Chg.frozen {S : Nat → Prop} {a b : World} (h : Chg S a b) {p : Addr} (hp : p.block < a.heap.size) (hn : ¬ S p.block) : b.frozen? p = a.frozen? p := World.frozen?_of_block (w := a) (h.block p.block hp hn)

theorem ret_int {k : IntKind} {a b : Int} (h : a = b) : Ending.returned (.int k a) = .returned (.int k b) := by rw [h]
theorem ret_str {a b : ByteArray} (h : a = b) : Ending.returned (.string a) = .returned (.string b) := by rw [h]
theorem ret_bool {a b : Bool} (h : a = b) : Ending.returned (.bool a) = .returned (.bool b) := by rw [h]

theorem drawn_chg {S : Nat → Prop} {w w' : World} (h : ∃ n, w' = w.drewN n) : Chg S w w' := by
  obtain ⟨n, rfl⟩ := h
  exact (Chg.refl S w).drewN n

/-- a callee that changes nothing, within a region whose order is drawn -/
theorem quiet_left {P : Program} {f : FuncId} {args : Array Value} {w : World} {n : Nat} {v : Value}
    (h : Calls P f args (w.drewN n) fun e w' => e = .returned v ∧ w.drewN n = w') : Calls P f args (w.drewN n) fun e w'' => e = .returned v ∧ ∃ m, w'' = w.drewN m :=
  h.mono fun _ _ ⟨he, hm⟩ => ⟨he, n, hm.symm⟩

#print axioms Chg.blk
end Go.Proofs.YtijooajhjcfneaaGreat

namespace Go.Proofs.YtijooajhjcfneaaGreat

theorem sy_disable (w : World) : (callFunc 113 #[]).run Tryz.prog w = .ok (.value (.tuple #[])) w := run_call_mark0 Tryz.func113 (by kernel_rfl) (by kernel_rfl) (by kernel_rfl) .disable (by kernel_rfl) w
theorem sy_enable (w : World) : (callFunc 115 #[]).run Tryz.prog w = .ok (.value (.tuple #[])) w := run_call_mark0 Tryz.func115 (by kernel_rfl) (by kernel_rfl) (by kernel_rfl) .enable (by kernel_rfl) w
theorem sy_acquire (a : Addr) (w : World) : (callFunc 116 #[.pointer (some a)]).run Tryz.prog w = .ok (.value (.tuple #[])) w := run_call_marked Tryz.func116 (by kernel_rfl) (by kernel_rfl) (by kernel_rfl) .acquire (by kernel_rfl) a w
theorem sy_releaseMerge (a : Addr) (w : World) : (callFunc 118 #[.pointer (some a)]).run Tryz.prog w = .ok (.value (.tuple #[])) w := run_call_marked Tryz.func118 (by kernel_rfl) (by kernel_rfl) (by kernel_rfl) .releaseMerge (by kernel_rfl) a w

set_option maxRecDepth 100000 in
theorem sy_store_deferred (a : Addr) (x : Value) (u : FrameMode) (w : World) (hc : w.cell? a = some x) (hz : w.frozen? a = false) :
    CallsD Tryz.prog 108 #[.pointer (some a), .bool true] u w fun e u' w' => u' = u ∧ (e = .returned (.tuple #[]) ∧ w' = w.drew.setCell a (.int .u32 1)) := by
  have hc' : w.drew.cell? a = some x := by go_simp
  have hz' : w.drew.frozen? a = false := by go_simp
  have hst := run_call_store (P := Tryz.prog) Tryz.func111 (by kernel_rfl) (by kernel_rfl) (by kernel_rfl) (by kernel_rfl) (k := .u32) (y := 1) hc' hz'
  go_enter_d Tryz.func108, Tryz.ntmps108
  go_wp2
  go_region_calls
  all_goals (go_end0; exact ⟨rfl, rfl⟩)

set_option maxRecDepth 100000 in
theorem sy_unlock_deferred (a : Addr) (u : FrameMode) (w : World) (hc : w.cell? a = some (.int .i32 1)) (hz : w.frozen? a = false) :
    CallsD Tryz.prog 107 #[.pointer (some a)] u w fun e u' w' => u' = u ∧ (e = .returned (.tuple #[]) ∧ w' = w.setCell a (.int .i32 0)) := by
  have hd := sy_disable
  have he := sy_enable
  have hr := sy_releaseMerge
  have hadd := run_call_add (P := Tryz.prog) Tryz.func119 (by kernel_rfl) (by kernel_rfl) (by kernel_rfl) .i32 (by kernel_rfl) (y := -1) (s := 0) hc hz (by simp [go_sem]; rfl)
  have hcv := run_convert_to_unsafe (P := Tryz.prog) (src := 177) (dst := 159) Tryz.underlying177 Tryz.underlying159 (by kernel_rfl) hc
  go_enter_d Tryz.func107, Tryz.ntmps107
  go_wp2
  go_end0
  go_wp2
  go_end0
  exact ⟨rfl, rfl⟩

set_option maxRecDepth 100000 in
theorem sy_lock_free (a : Addr) (w : World) (hc : w.cell? a = some (.int .i32 0)) (hz : w.frozen? a = false) :
    Calls Tryz.prog 106 #[.pointer (some a)] w fun e w' => e = .returned (.tuple #[]) ∧ w' = w.setCell a (.int .i32 1) := by
  have hd := sy_disable
  have he := sy_enable
  have ha := sy_acquire
  have hcas := run_call_cas_hit (P := Tryz.prog) Tryz.func114 (by kernel_rfl) (by kernel_rfl) (by kernel_rfl) .i32 (by kernel_rfl) (y := 1) hc hz
  have hc' : (w.setCell a (.int .i32 1)).cell? a = some (.int .i32 1) := World.cell?_setCell_same w a _ hc
  have hcv := run_convert_to_unsafe (P := Tryz.prog) (src := 177) (dst := 159) Tryz.underlying177 Tryz.underlying159 (by kernel_rfl) hc'
  go_enter Tryz.func106, Tryz.ntmps106
  go_wp2
  first | go_end0 | (simp only [Exit.inBlock, Exit.then]; refine bodyPost_ret (results_none rfl _ _ _) rfl ?_) | refine bodyPost_ret (results_none rfl _ _ _) rfl ?_
  go_wp2
  go_end0
  exact ⟨rfl, rfl⟩

set_option maxRecDepth 100000 in
theorem sy_do_done (a : Addr) (fv : Value) (w : World) (h0 : w.cell? a = some (.int .u32 1)) :
    Calls Tryz.prog 93 #[.pointer (some a), fv] w fun e w' => e = .returned (.tuple #[]) ∧ w' = w := by
  have hl := run_call_load (P := Tryz.prog) Tryz.func105 (by kernel_rfl) (by kernel_rfl) (by kernel_rfl) .u32 (by kernel_rfl) h0
  have hnot : ∀ (x : Bool) (w : World), (Op.unary .not (.bool x)).run Tryz.prog w = .ok (.bool (!x)) w := fun _ _ => rfl
  go_enter Tryz.func93, Tryz.ntmps93
  go_wp2
  go_end0
  exact ⟨rfl, rfl⟩
end Go.Proofs.YtijooajhjcfneaaGreat

namespace Go.Proofs.YtijooajhjcfneaaGreat

structure OnceIn (b off : Nat) (W2 : World) : Prop where
  g0 : W2.cell? ⟨b, off, none⟩ = some (.int .u32 0)
  g1 : W2.cell? ⟨b, off + 1, none⟩ = some (.int .i32 1)
  e0 : W2.frozen? ⟨b, off, none⟩ = false
  e1 : W2.frozen? ⟨b, off + 1, none⟩ = false

def OnceOut (b off : Nat) (R : World → Prop) (w' : World) : Prop := ∃ W2, R W2 ∧ w' = (W2.drew.setCell ⟨b, off, none⟩ (.int .u32 1)).setCell ⟨b, off + 1, none⟩ (.int .i32 0)

set_option maxRecDepth 100000 in
set_option maxHeartbeats 1600000 in
theorem sy_slowR (b off : Nat) (F : FuncId) (pl : Addr) (w : World) (R : World → Prop)
    (hcf : ∀ w : World, (callFunc F #[.pointer (some pl)]).run Tryz.prog w = .ok (.enter F #[.pointer (some pl)]) w)
    (hF : Calls Tryz.prog F #[.pointer (some pl)] (w.setCell ⟨b, off + 1, none⟩ (.int .i32 1)) fun e w' => e = .returned (.tuple #[]) ∧ R w')
    (h0 : w.cell? ⟨b, off, none⟩ = some (.int .u32 0)) (h1 : w.cell? ⟨b, off + 1, none⟩ = some (.int .i32 0))
    (f1 : w.frozen? ⟨b, off + 1, none⟩ = false)
    (hR : ∀ W2, R W2 → OnceIn b off W2) :
    Calls Tryz.prog 103 #[.pointer (some ⟨b, off, none⟩), .func (.func F) #[] #[.pointer (some pl)]] w fun e w' => e = .returned (.tuple #[]) ∧ OnceOut b off R w' := by
  have hl := run_call_load (P := Tryz.prog) Tryz.func105 (by kernel_rfl) (by kernel_rfl) (by kernel_rfl) .u32 (by kernel_rfl) (w := w.setCell ⟨b, off + 1, none⟩ (.int .i32 1)) (a := ⟨b, off, none⟩) (x := 0) ((World.cell?_setCell_other _ ⟨b, off + 1, none⟩ ⟨b, off, none⟩ _ (by simp)).trans h0)
  have hnot : ∀ (x : Bool) (w : World), (Op.unary .not (.bool x)).run Tryz.prog w = .ok (.bool (!x)) w := fun _ _ => rfl
  go_enter_defers Tryz.func103, Tryz.ntmps103
  go_wp2_with (first | (go_at_call 106; refine (sy_lock_free ⟨b, off + 1, none⟩ _ (by go_simp) (by go_simp)).mono ?_; rintro e w' ⟨rfl, rfl⟩) | (go_at_call 102; go_in))
  refine hF.mono ?_
  rintro e W2 ⟨rfl, hr⟩
  have hI := hR W2 hr
  go_wp2
  refine leaves_cons (f := 108) (args := #[.pointer (some ⟨b, off, none⟩), .bool true]) (by simp) (by simp [go_sem]) ?_
  refine (sy_store_deferred ⟨b, off, none⟩ (.int .u32 0) .returning _ hI.g0 hI.e0).mono ?_
  rintro e u' w'' ⟨rfl, rfl, rfl⟩
  refine leaves_cons (f := 107) (args := #[.pointer (some ⟨b, off + 1, none⟩)]) (by simp [settle]) (by simp [go_sem]) ?_
  refine (sy_unlock_deferred ⟨b, off + 1, none⟩ _ _ ?_ (by simp [hI.e1])).mono ?_
  · refine (World.cell?_setCell_other _ ⟨b, off, none⟩ ⟨b, off + 1, none⟩ _ (by simp)).trans ?_
    rw [World.cell?_drew]
    exact hI.g1
  rintro e u' w'' ⟨rfl, rfl, rfl⟩
  have hO : OnceOut b off R ((W2.drew.setCell ⟨b, off, none⟩ (.int .u32 1)).setCell ⟨b, off + 1, none⟩ (.int .i32 0)) := ⟨W2, hr, rfl⟩
  generalize (W2.drew.setCell ⟨b, off, none⟩ (.int .u32 1)).setCell ⟨b, off + 1, none⟩ (.int .i32 0) = W3 at *
  simp [Leaves, settle, results, Tryz.results103]
  exact hO

set_option maxRecDepth 100000 in
set_option maxHeartbeats 1600000 in
theorem sy_do_firstR (b off : Nat) (F : FuncId) (pl : Addr) (w : World) (R : World → Prop)
    (hcf : ∀ w : World, (callFunc F #[.pointer (some pl)]).run Tryz.prog w = .ok (.enter F #[.pointer (some pl)]) w)
    (hF : Calls Tryz.prog F #[.pointer (some pl)] (w.setCell ⟨b, off + 1, none⟩ (.int .i32 1)) fun e w' => e = .returned (.tuple #[]) ∧ R w')
    (h0 : w.cell? ⟨b, off, none⟩ = some (.int .u32 0)) (h1 : w.cell? ⟨b, off + 1, none⟩ = some (.int .i32 0))
    (f1 : w.frozen? ⟨b, off + 1, none⟩ = false)
    (hR : ∀ W2, R W2 → OnceIn b off W2) :
    Calls Tryz.prog 93 #[.pointer (some ⟨b, off, none⟩), .func (.func F) #[] #[.pointer (some pl)]] w fun e w' => e = .returned (.tuple #[]) ∧ OnceOut b off R w' := by
  have hl := run_call_load (P := Tryz.prog) Tryz.func105 (by kernel_rfl) (by kernel_rfl) (by kernel_rfl) .u32 (by kernel_rfl) h0
  have hnot : ∀ (x : Bool) (w : World), (Op.unary .not (.bool x)).run Tryz.prog w = .ok (.bool (!x)) w := fun _ _ => rfl
  have hS := sy_slowR b off F pl w R hcf hF h0 h1 f1 hR
  clear hF hcf hR
  go_enter Tryz.func93, Tryz.ntmps93
  go_wp2_with (first | (go_at_call 103; refine hS.mono ?_; rintro e w' ⟨rfl, hO⟩) | (go_at_call 102; go_in))
  go_end0
  exact ⟨rfl, hO⟩
end Go.Proofs.YtijooajhjcfneaaGreat

namespace Go.Proofs.YtijooajhjcfneaaGreat
open Go.RowKit

theorem u64_wrap (x : Int) : IntKind.u64.wrap x = x % 18446744073709551616 := by simp [IntKind.wrap, IntKind.bits, IntKind.signed]
theorem u64_wrap_nat (x : Nat) : IntKind.u64.wrap (x : Int) = ((x % 18446744073709551616 : Nat) : Int) := by rw [u64_wrap]; omega
theorem u64_wrap_lt (x : Nat) (h : x < 18446744073709551616) : IntKind.u64.wrap (x : Int) = (x : Int) := by rw [u64_wrap]; omega

/-- the low bits -/
def wLow (v : Nat) (n : Int) : Nat := if n ≤ 0 then 0 else if 64 ≤ n then v else v % 2 ^ n.toNat
/-- the low bits as a number with a sign -/
def wSign (v : Nat) (n : Int) : Nat :=
  if n ≤ 0 then 0 else if 64 ≤ n then v else if 2 ^ (n.toNat - 1) ≤ v % 2 ^ n.toNat then v % 2 ^ n.toNat + (18446744073709551616 - 2 ^ n.toNat) else v % 2 ^ n.toNat

theorem pow_split (n : Nat) (h : n ≤ 64) : 2 ^ (64 - n) * 2 ^ n = 18446744073709551616 := by
  rw [← Nat.pow_add, show 64 - n + n = 64 from by omega]
theorem pow_lt_64 (n : Nat) (h : n < 64) : 2 ^ n ≤ 9223372036854775808 := by
  have : 2 ^ n ≤ 2 ^ 63 := Nat.pow_le_pow_right (by omega) (by omega)
  omega
theorem pow_half (n : Nat) (h : 0 < n) : 2 ^ n = 2 * 2 ^ (n - 1) := by
  obtain ⟨m, rfl⟩ : ∃ m, n = m + 1 := ⟨n - 1, by omega⟩
  rw [Nat.pow_succ, Nat.mul_comm]; rfl

theorem wLow_lt (v : Nat) (n : Int) (h : v < 18446744073709551616) : wLow v n < 18446744073709551616 := by
  unfold wLow
  split
  · omega
  · split
    · exact h
    · exact Nat.lt_of_le_of_lt (Nat.mod_le _ _) h
theorem wSign_lt (v : Nat) (n : Int) (h : v < 18446744073709551616) : wSign v n < 18446744073709551616 := by
  unfold wSign
  split
  · omega
  · split
    · exact h
    · have h1 : v % 2 ^ n.toNat < 2 ^ n.toNat := Nat.mod_lt _ (Nat.two_pow_pos _)
      have h2 := pow_lt_64 n.toNat (by omega)
      split <;> omega

theorem low_form (v n : Nat) (hv : v < 18446744073709551616) (h0 : 0 < n) (h1 : n < 64) :
    bits BinOp.and IntKind.u64 (v : Int) (IntKind.u64.wrap (IntKind.u64.wrap (2 ^ n) - 1)) = ((wLow v n : Nat) : Int) := by
  have hp := pow_lt_64 n h1
  have hpos := Nat.two_pow_pos n
  have e1 : ((2 : Int) ^ n) = ((2 ^ n : Nat) : Int) := by simp
  have e2 : IntKind.u64.wrap (((2 ^ n : Nat) : Int)) = ((2 ^ n : Nat) : Int) := u64_wrap_lt _ (by omega)
  rw [e1, e2, show ((2 ^ n : Nat) : Int) - 1 = ((2 ^ n - 1 : Nat) : Int) from by omega, u64_wrap_lt _ (by omega), u64_and_nat _ _ hv (by omega), Nat.and_two_pow_sub_one_eq_mod]
  simp [wLow, show ¬ n = 0 from by omega, show ¬ (64 : Int) ≤ (n : Int) from by omega]

theorem sign_core (l P Q H : Nat) (hP : 0 < P) (hPQ : P * Q = 18446744073709551616) (hQ : Q = 2 * H) (hl : l < Q) :
    IntKind.u64.wrap (wrap64 (((l * P : Nat) : Int)) / (P : Int)) = (((if H ≤ l then l + (18446744073709551616 - Q) else l) : Nat) : Int) := by
  have hH : P * H = 9223372036854775808 := by
    have : 2 * (P * H) = 18446744073709551616 := by rw [← hPQ, hQ, Nat.mul_left_comm]
    omega
  have hlt : l * P < 18446744073709551616 := by
    rw [← hPQ, Nat.mul_comm P Q]
    exact Nat.mul_lt_mul_of_pos_right hl hP
  have hQle : Q ≤ 18446744073709551616 := by rw [← hPQ]; exact Nat.le_mul_of_pos_left _ hP
  by_cases h : H ≤ l
  · have h2 : 9223372036854775808 ≤ l * P := by
      rw [← hH, Nat.mul_comm P H]
      exact Nat.mul_le_mul_right _ h
    have e1 : wrap64 (((l * P : Nat) : Int)) = ((l : Int) - (Q : Int)) * (P : Int) := by
      have e : ((Q : Int)) * (P : Int) = 18446744073709551616 := by
        have : ((P * Q : Nat) : Int) = 18446744073709551616 := by rw [hPQ]; rfl
        rw [Int.natCast_mul, Int.mul_comm] at this
        exact this
      rw [Int.sub_mul, e, ← Int.natCast_mul]
      unfold wrap64
      omega
    rw [e1, Int.mul_ediv_cancel _ (by omega), if_pos h, u64_wrap]
    omega
  · have h2 : l * P < 9223372036854775808 := by
      rw [← hH, Nat.mul_comm P H]
      exact Nat.mul_lt_mul_of_pos_right (by omega) hP
    have e1 : wrap64 (((l * P : Nat) : Int)) = (l : Int) * (P : Int) := by
      rw [← Int.natCast_mul]
      unfold wrap64
      omega
    rw [e1, Int.mul_ediv_cancel _ (by omega), if_neg h, u64_wrap]
    omega

theorem sign_form (v n : Nat) (h0 : 0 < n) (h1 : n < 64) :
    IntKind.u64.wrap (wrap64 (IntKind.u64.wrap ((v : Int) * 2 ^ (64 - n))) / 2 ^ (64 - n)) = ((wSign v n : Nat) : Int) := by
  have hs := pow_split n (by omega)
  have e1 : ((2 : Int) ^ (64 - n)) = ((2 ^ (64 - n) : Nat) : Int) := by simp
  have e2 : IntKind.u64.wrap (((v * 2 ^ (64 - n) : Nat) : Int)) = (((v % 2 ^ n) * 2 ^ (64 - n) : Nat) : Int) := by
    rw [u64_wrap_nat, ← hs, Nat.mul_comm (2 ^ (64 - n)) (2 ^ n), Nat.mul_mod_mul_right]
  rw [e1, ← Int.natCast_mul, e2, sign_core (v % 2 ^ n) (2 ^ (64 - n)) (2 ^ n) (2 ^ (n - 1)) (Nat.two_pow_pos _) hs (pow_half n h0) (Nat.mod_lt _ (Nat.two_pow_pos _))]
  simp [wSign, show ¬ n = 0 from by omega, show ¬ (64 : Int) ≤ (n : Int) from by omega]
end Go.Proofs.YtijooajhjcfneaaGreat

namespace Go.Proofs.YtijooajhjcfneaaGreat
open Go.RowKit

/-- the lowest bytes of a word, the lowest first -/
def wBy (v : Nat) : Nat → List Int
  | 0 => []
  | n + 1 => ((v % 256 : Nat) : Int) :: wBy (v / 256) n
theorem wBy_len (n : Nat) : ∀ v, (wBy v n).length = n := by
  induction n with
  | zero => intro v; rfl
  | succ n ih => intro v; simp [wBy, ih]
theorem wBy_snoc (n : Nat) : ∀ v, wBy v (n + 1) = wBy v n ++ [((v / 256 ^ n % 256 : Nat) : Int)] := by
  induction n with
  | zero => intro v; simp [wBy]
  | succ n ih =>
    intro v
    rw [wBy, ih (v / 256), wBy, List.cons_append, Nat.div_div_eq_div_mul, Nat.pow_succ, Nat.mul_comm (256 ^ n) 256]
/-- how many bytes -/
def wCount (n : Int) : Nat := (min (max n 0) 8).toNat
/-- a word as bytes -/
def wBytes (v : Nat) (n : Int) : ByteArray := strOfNums (wBy v (wCount n))
theorem wBytes_size (v : Nat) (n : Int) : (wBytes v n).size = wCount n := by rw [wBytes, strOfNums_size, wBy_len]

theorem Tryz.infoU8 : (Tryz.prog.info? 5).map (fun i => (i.zero, i.size, i.bytes)) = some (some (.int .u8 0), 1, 1) := by kernel_rfl

theorem conv_own {w : World} {B : Nat} {sv : Value} {n : Nat} {xs : List Int} (h : w.ownsRow B 5 1 sv n (xs.map (Value.int .u8))) : (convert 51 9 sv).run Tryz.prog w = .ok (.string (strOfNums xs)) w := by
  have hl : xs.length = n := by simpa using h.1
  rcases h.2 with ⟨rfl, h0⟩ | ⟨g, cap, cur, rfl, hb, hg, hn, hm, hs, ht⟩
  · have : xs = [] := List.length_eq_zero_iff.1 (by omega)
    subst this
    rw [run_convert_bytes_nil w 51 5 Tryz.underlying51 Tryz.underlying5 0 0 9 Tryz.underlying9]
    rfl
  · refine run_convert_bytes_arg w 51 5 Tryz.underlying51 Tryz.underlying5 g 0 n cap xs hl (fun i hi => ?_) 9 Tryz.underlying9
    have := h.cellAt i (by omega)
    rw [Nat.zero_add, this]
    simp [List.getD, List.getElem?_eq_getElem (show i < xs.length by omega)]

/-- a round of Bytes -/
def ByAt (w : World) (v k : Nat) (x : Nat) (sv : Value) (wr : World) : Prop :=
  x = v / 256 ^ k ∧ wr.ownsRow w.heap.size 5 1 sv k ((wBy v k).map (Value.int .u8)) ∧ Chg (fun _ => False) w wr

theorem ByAt.next {w wr w1 : World} {v k x : Nat} {sv v' : Value} {T : TypeId} {c : Array Value} (h : ByAt w v k x sv wr) (h1 : w1.ownsRow w.heap.size 5 1 v' (k + 1) ((wBy v k).map (Value.int .u8) ++ [.int .u8 ((x : Int) % 256)]))
    (hg : (wr.alloc (.cells c T)).grownBy w1 sv.ownBlock) : ByAt w v (k + 1) (x / 256) v' w1 := by
  obtain ⟨hx, ho, hc⟩ := h
  refine ⟨by rw [hx, Nat.pow_succ, Nat.div_div_eq_div_mul], ?_, (hc.alloc _).grown hg (fun j hj => .inr (ho.lt j hj).1)⟩
  rw [wBy_snoc, List.map_append, ← hx]
  simpa using h1

set_option maxHeartbeats 800000 in
theorem word_bytes_mid (w : World) (v : Nat) (hv : v ≤ 18446744073709551615) (N : Nat) (hN : N ≤ 8) :
    Calls Tryz.prog 47 #[.int .u64 v, .int .i64 (N : Int)] w fun e w' => e = .returned (.string (strOfNums (wBy v N))) ∧ Chg (fun _ => False) w w' := by
  obtain ⟨i0, hi, hz0, hz1, hz2⟩ := info_parts Tryz.infoU8
  go_enter Tryz.func47, Tryz.ntmps47
  go_wp2_with fail
  go_loopw [0, 5, 9] (fun x sv i wr => ∃ k y : Nat, k ≤ N ∧ y ≤ 18446744073709551615 ∧ x = .int .u64 (y : Int) ∧ i = .int .i64 k ∧ Hid (ByAt w v k y sv wr)) (fun _ _ i _ => N - (intOf i).toNat)
  case atStart => exact ⟨0, v, Nat.zero_le _, hv, rfl, rfl, by simp, World.ownsRow_nil _ _ _ _, Chg.refl _ _⟩
  case round =>
    obtain ⟨k, y, hk, hy, rfl, rfl, HB⟩ := hrel
    rename_i sv
    have hws : w.heap.size ≤ wr.heap.size := HB.out.2.2.size
    have lt0 : k < N ∨ k = N := by omega
    have km : k + 1 ≤ maxLen := by unfold maxLen; omega
    rcases lt0 with hlt | hlt
    · have hlt' : decide ((k : Int) < (N : Int)) = true := decide_eq_true (by omega)
      have hyw : IntKind.u8.wrap (y : Int) = (y : Int) % 256 := by simp [IntKind.wrap, IntKind.bits, IntKind.signed]
      go_wp2_with (at_builtin; refine wpList_append_own_at _ rfl (.tmp 11) (.tmp 14) 51 rfl w.heap.size 5 i0 (.int .u8 0) 1 1 Tryz.underlying51 hi hz0 hz1 hz2 rfl (by decide) _ _ _ rfl (HB.out.2.1.alloc _) ⟨wr.heap.size, 0, none⟩ 1 1 [.int .u8 ((y : Int) % 256)] rfl rfl (cell_one_new _ _ _) (by simp [Value.oneCell']) km (by omega) (by simp; omega) ?_; intro v' w1 hown1 hgrow1 _ _; have HN := Lib.hid (HB.out.next hown1 hgrow1); clear hown1 hgrow1)
      go_roundw
      case rel => exact ⟨k + 1, y / 256, by omega, by omega, by go_num, by go_num, HN⟩
      case measure => simp [intOf]; omega
    · have hlt' : decide ((k : Int) < (N : Int)) = false := decide_eq_false (by omega)
      have hlt3 : ¬ k < N := by omega
      have hcv := conv_own HB.out.2.1
      have HC := Lib.hid HB.out.2.2
      have HK := Lib.hid hlt
      clear hlt
      go_wp2_with fail
      go_ret
      exact ⟨ret_str (by rw [HK.out]), HC.out⟩

set_option maxHeartbeats 800000 in
theorem word_bytes_low (w : World) (v : Nat) (hv : v ≤ 18446744073709551615) (n : Int) (hn : n < 0) :
    Calls Tryz.prog 47 #[.int .u64 v, .int .i64 n] w fun e w' => e = .returned (.string (strOfNums (wBy v 0))) ∧ Chg (fun _ => False) w w' := by
  obtain ⟨i0, hi, hz0, hz1, hz2⟩ := info_parts Tryz.infoU8
  go_enter Tryz.func47, Tryz.ntmps47
  go_wp2_with fail
  go_loopw [0, 5, 9] (fun x sv i wr => ∃ k y : Nat, k ≤ 0 ∧ y ≤ 18446744073709551615 ∧ x = .int .u64 (y : Int) ∧ i = .int .i64 k ∧ Hid (ByAt w v k y sv wr)) (fun _ _ i _ => 0 - (intOf i).toNat)
  case atStart => exact ⟨0, v, Nat.zero_le _, hv, rfl, rfl, by simp, World.ownsRow_nil _ _ _ _, Chg.refl _ _⟩
  case round =>
    obtain ⟨k, y, hk, hy, rfl, rfl, HB⟩ := hrel
    rename_i sv
    have hws : w.heap.size ≤ wr.heap.size := HB.out.2.2.size
    have lt0 : k < 0 ∨ k = 0 := by omega
    have km : k + 1 ≤ maxLen := by unfold maxLen; omega
    rcases lt0 with hlt | hlt
    · omega
    · have hlt' : decide ((k : Int) < (0 : Int)) = false := decide_eq_false (by omega)
      have hlt3 : ¬ k < 0 := by omega
      have hcv := conv_own HB.out.2.1
      have HC := Lib.hid HB.out.2.2
      have HK := Lib.hid hlt
      clear hlt
      go_wp2_with fail
      go_ret
      exact ⟨ret_str (by rw [HK.out]), HC.out⟩

set_option maxHeartbeats 800000 in
theorem word_bytes_high (w : World) (v : Nat) (hv : v ≤ 18446744073709551615) (n : Int) (hn : 8 < n) :
    Calls Tryz.prog 47 #[.int .u64 v, .int .i64 n] w fun e w' => e = .returned (.string (strOfNums (wBy v 8))) ∧ Chg (fun _ => False) w w' := by
  obtain ⟨i0, hi, hz0, hz1, hz2⟩ := info_parts Tryz.infoU8
  go_enter Tryz.func47, Tryz.ntmps47
  go_wp2_with fail
  go_loopw [0, 5, 9] (fun x sv i wr => ∃ k y : Nat, k ≤ 8 ∧ y ≤ 18446744073709551615 ∧ x = .int .u64 (y : Int) ∧ i = .int .i64 k ∧ Hid (ByAt w v k y sv wr)) (fun _ _ i _ => 8 - (intOf i).toNat)
  case atStart => exact ⟨0, v, Nat.zero_le _, hv, rfl, rfl, by simp, World.ownsRow_nil _ _ _ _, Chg.refl _ _⟩
  case round =>
    obtain ⟨k, y, hk, hy, rfl, rfl, HB⟩ := hrel
    rename_i sv
    have hws : w.heap.size ≤ wr.heap.size := HB.out.2.2.size
    have lt0 : k < 8 ∨ k = 8 := by omega
    have km : k + 1 ≤ maxLen := by unfold maxLen; omega
    rcases lt0 with hlt | hlt
    · have hlt' : decide ((k : Int) < (8 : Int)) = true := decide_eq_true (by omega)
      have hyw : IntKind.u8.wrap (y : Int) = (y : Int) % 256 := by simp [IntKind.wrap, IntKind.bits, IntKind.signed]
      go_wp2_with (at_builtin; refine wpList_append_own_at _ rfl (.tmp 11) (.tmp 14) 51 rfl w.heap.size 5 i0 (.int .u8 0) 1 1 Tryz.underlying51 hi hz0 hz1 hz2 rfl (by decide) _ _ _ rfl (HB.out.2.1.alloc _) ⟨wr.heap.size, 0, none⟩ 1 1 [.int .u8 ((y : Int) % 256)] rfl rfl (cell_one_new _ _ _) (by simp [Value.oneCell']) km (by omega) (by simp; omega) ?_; intro v' w1 hown1 hgrow1 _ _; have HN := Lib.hid (HB.out.next hown1 hgrow1); clear hown1 hgrow1)
      go_roundw
      case rel => exact ⟨k + 1, y / 256, by omega, by omega, by go_num, by go_num, HN⟩
      case measure => simp [intOf]; omega
    · have hlt' : decide ((k : Int) < (8 : Int)) = false := decide_eq_false (by omega)
      have hlt3 : ¬ k < 8 := by omega
      have hcv := conv_own HB.out.2.1
      have HC := Lib.hid HB.out.2.2
      have HK := Lib.hid hlt
      clear hlt
      go_wp2_with fail
      go_ret
      exact ⟨ret_str (by rw [HK.out]), HC.out⟩

theorem word_bytes (w : World) (v : Nat) (hv : v < 18446744073709551616) (n : Int) :
    Calls Tryz.prog 47 #[.int .u64 v, .int .i64 n] w fun e w' => e = .returned (.string (wBytes v n)) ∧ Chg (fun _ => False) w w' := by
  by_cases h1 : n < 0
  · have e : wCount n = 0 := by unfold wCount; omega
    rw [wBytes, e]
    exact word_bytes_low w v (by omega) n h1
  · by_cases h2 : 8 < n
    · have e : wCount n = 8 := by unfold wCount; omega
      rw [wBytes, e]
      exact word_bytes_high w v (by omega) n h2
    · obtain ⟨m, rfl⟩ := Int.eq_ofNat_of_zero_le (show 0 ≤ n by omega)
      have e : wCount (m : Int) = m := by unfold wCount; omega
      rw [wBytes, e]
      exact word_bytes_mid w v (by omega) m (by omega)
end Go.Proofs.YtijooajhjcfneaaGreat

namespace Go.Proofs.YtijooajhjcfneaaGreat
open Go.RowKit

/-- byte i of a string -/
def byt (s : ByteArray) (i : Nat) : Nat := (s.data.toList.getD i 0).toNat
theorem byt_lt (s : ByteArray) (i : Nat) : byt s i < 256 := UInt8.toNat_lt _
theorem byt_get (s : ByteArray) (i : Nat) (h : i < s.size) : s[i].toNat = byt s i := by
  unfold byt
  have h' : i < s.data.toList.length := by simpa using h
  rw [List.getD, List.getElem?_eq_getElem h']
  rfl
/-- the word of the first k bytes -/
def wOfN (s : ByteArray) : Nat → Nat
  | 0 => 0
  | k + 1 => wOfN s k + byt s k * 256 ^ k
theorem wOfN_lt (s : ByteArray) : ∀ k, wOfN s k < 256 ^ k
  | 0 => by simp [wOfN]
  | k + 1 => by
    have h1 := wOfN_lt s k
    have h2 := byt_lt s k
    have h3 : byt s k * 256 ^ k ≤ 255 * 256 ^ k := Nat.mul_le_mul_right _ (by omega)
    rw [wOfN, Nat.pow_succ]
    omega
def wOf (s : ByteArray) : Nat := wOfN s (min s.size 8)
theorem wOf_lt (s : ByteArray) : wOf s < 18446744073709551616 := by
  have h := wOfN_lt s (min s.size 8)
  have : 256 ^ (min s.size 8) ≤ 256 ^ 8 := Nat.pow_le_pow_right (by omega) (by omega)
  unfold wOf
  omega

theorem of_round (s : ByteArray) (k : Nat) (hk : k < s.size) (h8 : k < 8) :
    bits BinOp.or IntKind.u64 ((wOfN s k : Nat) : Int) (IntKind.u64.wrap (IntKind.u64.wrap (s[k].toNat : Int) * 2 ^ (8 * k))) = ((wOfN s (k + 1) : Nat) : Int) := by
  have hb := byt_lt s k
  have hlt := wOfN_lt s k
  have hp : 256 ^ k * 256 ≤ 18446744073709551616 := by
    have : 256 ^ (k + 1) ≤ 256 ^ 8 := Nat.pow_le_pow_right (by omega) (by omega)
    rw [Nat.pow_succ] at this
    omega
  have h3 : byt s k * 256 ^ k ≤ 255 * 256 ^ k := Nat.mul_le_mul_right _ (by omega)
  have e1 : ((2 : Int) ^ (8 * k)) = ((256 ^ k : Nat) : Int) := by
    rw [Int.pow_mul]
    simp
  have hpos : 0 < 256 ^ k := Nat.pos_of_ne_zero (by simp)
  rw [byt_get s k hk, u64_wrap_lt _ (by omega), e1, ← Int.natCast_mul, u64_wrap_lt _ (by omega), u64_or_nat _ _ (by omega) (by omega), Nat.or_comm]
  have e2 := nat_join (8 * k) (byt s k * 256 ^ k) (wOfN s k) (by rw [Nat.pow_mul]; exact Nat.mul_mod_left _ _) (by rw [Nat.pow_mul]; exact hlt)
  rw [e2, wOfN, Nat.add_comm]

set_option maxHeartbeats 800000 in
theorem word_of_le (w : World) (s : ByteArray) (hs : s.size ≤ 8) :
    Calls Tryz.prog 51 #[.string s] w fun e w' => e = .returned (.int .u64 (wOf s : Nat)) ∧ w = w' := by
  go_enter Tryz.func51, Tryz.ntmps51
  go_wp2_with fail
  go_loop [3, 8] (fun x i => ∃ k : Nat, k ≤ s.size ∧ Hid (x = .int .u64 ((wOfN s k : Nat) : Int)) ∧ i = .int .i64 k) (fun _ i => s.size - (intOf i).toNat)
  case atStart => exact ⟨0, Nat.zero_le _, rfl, rfl⟩
  case round =>
    obtain ⟨k, hk, hx, rfl⟩ := hrel
    obtain rfl := hx.out
    clear hx
    have lt0 : k < s.size ∨ k = s.size := by omega
    rcases lt0 with hlt | hlt
    · have hks : k < s.size := by omega
      have F := Lib.hid (of_round s k hks (by omega))
      generalize wOfN s k = y at *
      go_wp2_with fail
      exact ⟨⟨k + 1, by omega, congrArg (Value.int IntKind.u64) F.out, by go_num⟩, by simp [intOf]; omega⟩
    · have hlt3 : ¬ k < s.size := by omega
      have HK := Lib.hid hlt
      have F : wOfN s k = wOf s := by
        unfold wOf
        congr 1
        omega
      have HF := Lib.hid F
      clear hlt F
      generalize wOfN s k = y at *
      go_wp2_with fail
      go_ret
      exact ⟨ret_int (by rw [HF.out]), rfl⟩

set_option maxHeartbeats 800000 in
theorem word_of_gt (w : World) (s : ByteArray) (hs : 8 < s.size) (hm : s.size ≤ maxLen) :
    Calls Tryz.prog 51 #[.string s] w fun e w' => e = .returned (.int .u64 (wOf s : Nat)) ∧ w = w' := by
  unfold maxLen at hm
  go_enter Tryz.func51, Tryz.ntmps51
  go_wp2_with fail
  go_loop [3, 8] (fun x i => ∃ k : Nat, k ≤ 8 ∧ Hid (x = .int .u64 ((wOfN s k : Nat) : Int)) ∧ i = .int .i64 k) (fun _ i => 8 - (intOf i).toNat)
  case atStart => exact ⟨0, Nat.zero_le _, rfl, rfl⟩
  case round =>
    obtain ⟨k, hk, hx, rfl⟩ := hrel
    obtain rfl := hx.out
    clear hx
    have lt0 : k < 8 ∨ k = 8 := by omega
    rcases lt0 with hlt | hlt
    · have hks : k < s.size := by omega
      have F := Lib.hid (of_round s k hks (by omega))
      generalize wOfN s k = y at *
      go_wp2_with fail
      exact ⟨⟨k + 1, by omega, congrArg (Value.int IntKind.u64) F.out, by go_num⟩, by simp [intOf]; omega⟩
    · have hlt3 : ¬ k < 8 := by omega
      have HK := Lib.hid hlt
      have F : wOfN s k = wOf s := by
        unfold wOf
        congr 1
        omega
      have HF := Lib.hid F
      clear hlt F
      generalize wOfN s k = y at *
      go_wp2_with fail
      go_ret
      exact ⟨ret_int (by rw [HF.out]), rfl⟩

theorem word_of (w : World) (s : ByteArray) (hm : s.size ≤ maxLen) :
    Calls Tryz.prog 51 #[.string s] w fun e w' => e = .returned (.int .u64 (wOf s : Nat)) ∧ w = w' := by
  by_cases h : s.size ≤ 8
  · exact word_of_le w s h
  · exact word_of_gt w s (by omega) hm
end Go.Proofs.YtijooajhjcfneaaGreat

namespace Go.Proofs.YtijooajhjcfneaaGreat
open Go.RowKit

def memC (F : Nat) (d : Int) (sv : Value) (t : Nat) : Array Value := #[.int .i64 F, .int .u32 d, .int .i32 0, .int .u32 0, sv, .int .u64 t]
def memS (g F : Nat) : Value := .slice (some ⟨g, 0, none⟩) (F * 256) (F * 256)
abbrev MemT : TypeId := 94
abbrev ByT : TypeId := 5

/-- a row of bytes -/
def Row (w : World) (g n : Nat) (V : Nat → Nat) : Prop := ∃ cs : Array Value, Blk w g cs ByT ∧ cs.size = n ∧ ∀ i, i < n → cs[i]? = some (.int .u8 (V i : Nat))

/-- a memory of F frames whose bytes are made -/
structure MemM (w : World) (p g F : Nat) (V : Nat → Nat) (t : Nat) : Prop where
  blk : Blk w p (memC F 1 (memS g F) t) MemT
  row : Row w g (F * 256) V
  ne : p ≠ g
  small : ∀ i, V i < 256
/-- a memory of F frames whose bytes aren't made yet -/
structure MemU (w : World) (p F : Nat) (t : Nat) : Prop where
  blk : Blk w p (memC F 0 (.slice none 0 0) t) MemT

theorem Row.lt {w : World} {g n : Nat} {V : Nat → Nat} (h : Row w g n V) : g < w.heap.size := by
  obtain ⟨cs, h1, _, _⟩ := h
  exact h1.lt
theorem Row.chg {S : Nat → Prop} {w w' : World} {g n : Nat} {V : Nat → Nat} (h : Row w g n V) (c : Chg S w w') (hn : ¬ S g) : Row w' g n V := by
  obtain ⟨cs, h1, h2, h3⟩ := h
  exact ⟨cs, c.blk h1 hn, h2, h3⟩
theorem MemM.chg {S : Nat → Prop} {w w' : World} {p g F t : Nat} {V : Nat → Nat} (h : MemM w p g F V t) (c : Chg S w w') (hn : ¬ S p) (hm : ¬ S g) : MemM w' p g F V t :=
  ⟨c.blk h.blk hn, h.row.chg c hm, h.ne, h.small⟩
theorem MemU.chg {S : Nat → Prop} {w w' : World} {p F t : Nat} (h : MemU w p F t) (c : Chg S w w') (hn : ¬ S p) : MemU w' p F t := ⟨c.blk h.blk hn⟩

/-- what the closure in bytes does -/
def Made (w : World) (p F t : Nat) (_pl : Nat) (w' : World) : Prop :=
  ∃ g, w.heap.size ≤ g ∧ Blk w' p #[.int .i64 F, .int .u32 0, .int .i32 1, .int .u32 0, memS g F, .int .u64 t] MemT ∧ Row w' g (F * 256) (fun _ => 0) ∧ Chg (fun k => k = p) w w'

/-- F frames of noughts -/
def zeros (n : Nat) : Array Value := madeCells #[.int .u8 0] n
theorem zeros_size (n : Nat) : (zeros n).size = n := size_madeCells _ _
theorem zeros_get (n i : Nat) (h : i < n) : (zeros n)[i]? = some (.int .u8 0) := by
  unfold zeros madeCells
  simp [h, Nat.mod_one]
theorem make_bytes (W : World) (n : Nat) (hn : n ≤ 16777216) : (Instr.makeSlice 51 (.int .i64 (n : Int)) (.int .i64 (n : Int))).run Tryz.prog W = .ok (.slice (some ⟨W.heap.size, 0, none⟩) n n) (W.alloc (.cells (zeros n) ByT)) := by
  obtain ⟨i0, hi, hz0, hz1, hz2⟩ := info_parts Tryz.infoU8
  have h := run_make (P := Tryz.prog) W 51 ByT i0 (.int .u8 0) Tryz.underlying51 hi hz0 .i64 .i64 (n : Int) (n : Int) (by omega) (Int.le_refl _) (by rw [hz2]; omega) (by omega)
  rw [hz1, Nat.mul_one] at h
  exact h
theorem make_frames (W : World) (F : Nat) (hF : F ≤ 256) : (Instr.makeSlice 51 (.int .i64 ((F : Int) * 256)) (.int .i64 ((F : Int) * 256))).run Tryz.prog W = .ok (.slice (some ⟨W.heap.size, 0, none⟩) (F * 256) (F * 256)) (W.alloc (.cells (zeros (F * 256)) ByT)) := by
  have h := make_bytes W (F * 256) (by omega)
  rw [show ((F * 256 : Nat) : Int) = (F : Int) * 256 from by omega] at h
  exact h
theorem row_zeros (W : World) (n : Nat) : Row (W.alloc (.cells (zeros n) ByT)) W.heap.size n (fun _ => 0) := ⟨_, Blk.new W _ _, zeros_size n, fun i hi => zeros_get n i hi⟩

set_option maxHeartbeats 800000 in
theorem mem_bytes1 (w : World) (p F t pl : Nat) (hF : F ≤ 256) (h : Blk w p #[.int .i64 F, .int .u32 0, .int .i32 1, .int .u32 0, .slice none 0 0, .int .u64 t] MemT) (hp : w.cell? ⟨pl, 0, none⟩ = some (.pointer (some ⟨p, 0, none⟩))) :
    Calls Tryz.prog 94 #[.pointer (some ⟨pl, 0, none⟩)] w fun e w' => e = .returned (.tuple #[]) ∧ Made w p F t pl w' := by
  have c0 := h.cellv 0 _ rfl
  have c4 := h.cellv 4 _ rfl
  have f4 := h.free 4
  have hw : wrap64 ((F : Int) * 256) = (F : Int) * 256 := by unfold wrap64; omega
  have hmk := fun W => make_frames W F hF
  have hplt : pl < w.heap.size := by
    have := World.block_lt_of_cell? _ _ hp
    simpa using this
  have hp' : (w.alloc (.cells (zeros (F * 256)) ByT)).cell? ⟨pl, 0, none⟩ = some (.pointer (some ⟨p, 0, none⟩)) := by
    rw [(Chg.refl (fun _ => False) w |>.alloc _).cell hplt (fun h => h)]; exact hp
  have h' := h.alloc (.cells (zeros (F * 256)) ByT)
  have c0' := h'.cellv 0 _ rfl
  have c4' := h'.cellv 4 _ rfl
  have f4' := h'.free 4
  have HH := Lib.hid (And.intro h h'); clear h h'
  go_enter Tryz.func94, Tryz.ntmps94
  go_wp2_with fail
  go_region
  all_goals
    go_end0
    have hl := HH.out.1.lt
    exact ⟨rfl, w.heap.size, Nat.le_refl _, HH.out.2.set 4 (memS w.heap.size F), (row_zeros w (F * 256)).chg (((Chg.refl (fun k => k = p) _).setCell ⟨p, 4, none⟩ _ (.inl rfl)).drew) (by omega), ((((Chg.refl (fun k => k = p) w).alloc _).setCell ⟨p, 4, none⟩ _ (.inl rfl)).drew)⟩
end Go.Proofs.YtijooajhjcfneaaGreat

namespace Go.Proofs.YtijooajhjcfneaaGreat
open Go.RowKit

/-- which block of bytes: not made yet, or made -/
inductive MemA : World → Nat → Option Nat → Nat → (Nat → Nat) → Nat → Prop
  | un {w p F t} (h : MemU w p F t) : MemA w p none F (fun _ => 0) t
  | made {w p g F V t} (h : MemM w p g F V t) : MemA w p (some g) F V t

/-- the blocks of a memory -/
def MemOwn (p : Nat) (o : Option Nat) (k : Nat) : Prop := k = p ∨ o = some k

theorem MemA.chg {S : Nat → Prop} {w w' : World} {p F t : Nat} {o : Option Nat} {V : Nat → Nat} (h : MemA w p o F V t) (c : Chg S w w') (hn : ∀ k, MemOwn p o k → ¬ S k) : MemA w' p o F V t := by
  cases h with
  | un h => exact .un (h.chg c (hn _ (.inl rfl)))
  | made h => exact .made (h.chg c (hn _ (.inl rfl)) (hn _ (.inr rfl)))
theorem MemA.small {w : World} {p F t : Nat} {o : Option Nat} {V : Nat → Nat} (h : MemA w p o F V t) : ∀ i, V i < 256 := by
  cases h with
  | un h => intro i; exact Nat.zero_lt_succ _
  | made h => exact h.small
theorem MemA.lt {w : World} {p F t : Nat} {o : Option Nat} {V : Nat → Nat} (h : MemA w p o F V t) : ∀ k, MemOwn p o k → k < w.heap.size := by
  cases h with
  | un h => rintro k (rfl | h'); exact h.blk.lt; exact absurd h' (by simp)
  | made h => rintro k (rfl | h'); exact h.blk.lt; cases h'; exact h.row.lt

theorem phys_new (w : World) (F : Int) (h0 : 1 ≤ F) (h1 : F ≤ 256) :
    Calls Tryz.prog 8 #[.int .i64 F] w fun e w' => e = .returned (.tuple #[.pointer (some ⟨w.heap.size, 0, none⟩), .int .i64 0]) ∧ MemU w' w.heap.size F.toNat 0 ∧ Chg (fun _ => False) w w' ∧ w'.heap.size = w.heap.size + 1 := by
  obtain ⟨n, rfl⟩ := Int.eq_ofNat_of_zero_le (show 0 ≤ F by omega)
  go_enter Tryz.func8, Tryz.ntmps8
  go_wp2_with fail
  go_ret2
  exact ⟨rfl, ⟨Blk.new w _ _⟩, (Chg.refl _ _).alloc _, by simp⟩

theorem phys_new_no (w : World) (F : Int) (h : F < 1 ∨ 256 < F) :
    Calls Tryz.prog 8 #[.int .i64 F] w fun e w' => e = .returned (.tuple #[.pointer none, .int .i64 1]) ∧ w = w' := by
  by_cases h1 : F < 1
  · go_enter Tryz.func8, Tryz.ntmps8
    go_wp2_with fail
    go_ret2
    exact ⟨rfl, rfl⟩
  · have h2 : 256 < F := by omega
    go_enter Tryz.func8, Tryz.ntmps8
    go_wp2_with fail
    go_ret2
    exact ⟨rfl, rfl⟩

theorem MemA.cell0 {w : World} {p F t : Nat} {o : Option Nat} {V : Nat → Nat} (h : MemA w p o F V t) : w.cell? ⟨p, 0, none⟩ = some (.int .i64 F) := by
  cases h with
  | un h => exact h.blk.cellv 0 _ rfl
  | made h => exact h.blk.cellv 0 _ rfl

theorem phys_frames (w : World) (p F t : Nat) (o : Option Nat) (V : Nat → Nat) (h : MemA w p o F V t) :
    Calls Tryz.prog 31 #[.pointer (some ⟨p, 0, none⟩)] w fun e w' => e = .returned (.int .i64 F) ∧ w = w' := by
  have c0 := h.cell0
  clear h
  go_enter Tryz.func31, Tryz.ntmps31
  go_wp2_with fail
  go_ret
  exact ⟨rfl, rfl⟩

/-- what 'bytes' comes to -/
def Bytes (w : World) (p F t : Nat) (o : Option Nat) (V : Nat → Nat) (e : Ending) (w' : World) : Prop :=
  ∃ g, e = .returned (.slice (some ⟨g, 0, none⟩) (F * 256) (F * 256)) ∧ MemM w' p g F V t ∧ Chg (fun k => k = p) w w' ∧ (o = some g ∨ o = none ∧ w.heap.size ≤ g)

theorem mem_bytes_made (w : World) (p g F t : Nat) (V : Nat → Nat) (h : MemM w p g F V t) :
    Calls Tryz.prog 70 #[.pointer (some ⟨p, 0, none⟩)] w (Bytes w p F t (some g) V) := by
  have hmf : ∀ (fn : Fn) (first cap : Array Value) (w : World), (Instr.makeFunc fn first cap).run Tryz.prog w = .ok (.func fn first cap) w := fun _ _ _ _ => rfl
  obtain ⟨W1, hW1⟩ : ∃ W, W = w.alloc (.cells #[.pointer (some ⟨p, 0, none⟩)] 33) := ⟨_, rfl⟩
  have B1 : Blk W1 p _ MemT := hW1 ▸ h.blk.alloc _
  have P1 : Blk W1 w.heap.size #[.pointer (some ⟨p, 0, none⟩)] 33 := hW1 ▸ Blk.new w _ _
  have C1 : Chg (fun k => k = p) w W1 := hW1 ▸ (Chg.refl _ _).alloc _
  have D := fun fv => Lib.hid (sy_do_done ⟨p, 1, none⟩ fv W1 (B1.cellv 1 _ rfl))
  have d0 := P1.cellv 0 _ rfl
  have d4 := B1.cellv 4 _ rfl
  have HM := Lib.hid (h.chg (S := fun _ => False) (hW1 ▸ (Chg.refl _ _).alloc _ : Chg (fun _ => False) w W1) (fun h => h) (fun h => h))
  have HC := Lib.hid C1
  have HD := Lib.hid D
  clear B1 P1 C1 h D
  have HW := Lib.hid hW1
  rw [hW1] at HD d0 d4
  clear hW1
  unfold memS at d4
  go_enter Tryz.func70, Tryz.ntmps70
  go_wp2_with (go_at_call 93; refine (HD.out _).out.mono ?_; rintro e w' ⟨rfl, rfl⟩)
  go_ret
  exact ⟨g, rfl, HW.out ▸ HM.out, HW.out ▸ HC.out, .inl rfl⟩

theorem made_out {Wa w' : World} {p F t pl : Nat} (hp : p < Wa.heap.size) (h : OnceOut p 1 (Made Wa p F t pl) w') :
    ∃ g, Wa.heap.size ≤ g ∧ MemM w' p g F (fun _ => 0) t ∧ Chg (fun k => k = p) Wa w' := by
  obtain ⟨W2, ⟨g, hg, hb, hr, hc⟩, rfl⟩ := h
  have ne : ¬ g = p := by omega
  refine ⟨g, hg, ⟨?_, (hr.chg (S := fun k => k = p) (((Chg.refl (fun k => k = p) W2).drew.setCell ⟨p, 1, none⟩ _ (.inl rfl)).setCell ⟨p, 1 + 1, none⟩ _ (.inl rfl)) ne), fun h => ne h.symm, fun _ => by omega⟩, (hc.drew.setCell _ _ (.inl rfl)).setCell _ _ (.inl rfl)⟩
  exact (hb.drew.set 1 (.int .u32 1)).set 2 (.int .i32 0)

theorem made_once {Wa : World} {p F t pl : Nat} (W2 : World) (h : Made Wa p F t pl W2) : OnceIn p 1 W2 := by
  obtain ⟨g, hg, hb, hr, hc⟩ := h
  exact ⟨hb.cellv 1 _ rfl, hb.cellv 2 _ rfl, hb.free 1, hb.free 2⟩

set_option maxHeartbeats 800000 in
theorem mem_bytes_new (w : World) (p F t : Nat) (hF : F ≤ 256) (h : MemU w p F t) :
    Calls Tryz.prog 70 #[.pointer (some ⟨p, 0, none⟩)] w (Bytes w p F t none (fun _ => 0)) := by
  have hb := h.blk.lt
  have hmf : ∀ (fn : Fn) (first cap : Array Value) (w : World), (Instr.makeFunc fn first cap).run Tryz.prog w = .ok (.func fn first cap) w := fun _ _ _ _ => rfl
  obtain ⟨W1, hW1⟩ : ∃ W, W = w.alloc (.cells #[.pointer (some ⟨p, 0, none⟩)] 33) := ⟨_, rfl⟩
  have B1 : Blk W1 p _ MemT := hW1 ▸ h.blk.alloc _
  have P1 : Blk W1 w.heap.size #[.pointer (some ⟨p, 0, none⟩)] 33 := hW1 ▸ Blk.new w _ _
  have C1 : Chg (fun k => k = p) w W1 := hW1 ▸ (Chg.refl _ _).alloc _
  have z1 : W1.heap.size = w.heap.size + 1 := by rw [hW1]; simp
  obtain ⟨Wa, hWa⟩ : ∃ W, W = W1.setCell ⟨p, 1 + 1, none⟩ (.int .i32 1) := ⟨_, rfl⟩
  have Ba : Blk Wa p _ MemT := hWa ▸ B1.set 2 (.int .i32 1)
  have Pa : Blk Wa w.heap.size #[.pointer (some ⟨p, 0, none⟩)] 33 := hWa ▸ P1.setOther _ _ (by simp; omega)
  have Ca : Chg (fun k => k = p) w Wa := hWa ▸ C1.setCell _ _ (.inl rfl)
  have za : Wa.heap.size = w.heap.size + 1 := by rw [hWa]; simp [z1]
  have hF1 := mem_bytes1 Wa p F t w.heap.size hF Ba (Pa.cellv 0 _ rfl)
  have hcf : ∀ w0 : World, (callFunc 94 #[.pointer (some ⟨w.heap.size, 0, none⟩)]).run Tryz.prog w0 = .ok (.enter 94 #[.pointer (some ⟨w.heap.size, 0, none⟩)]) w0 := by
    intro w0
    go_simp
  have hD := sy_do_firstR p 1 94 ⟨w.heap.size, 0, none⟩ W1 (Made Wa p F t w.heap.size) hcf (hWa ▸ hF1) (B1.cellv 1 _ rfl) (B1.cellv 2 _ rfl) (B1.free 2) made_once
  have pay : ∀ w', OnceOut p 1 (Made Wa p F t w.heap.size) w' → ∃ g, w'.cell? ⟨w.heap.size, 0, none⟩ = some (.pointer (some ⟨p, 0, none⟩)) ∧ w'.cell? ⟨p, 4, none⟩ = some (.slice (some ⟨g, 0, none⟩) (F * 256) (F * 256)) ∧ Hid (w.heap.size ≤ g ∧ MemM w' p g F (fun _ => 0) t ∧ Chg (fun k => k = p) w w') := by
    intro w' ho
    obtain ⟨g, hg, hm, hc⟩ := made_out (by omega) ho
    exact ⟨g, by rw [hc.cell (by simp [za]) (by simp; omega)]; exact Pa.cellv 0 _ rfl, hm.blk.cellv 4 _ rfl, by omega, hm, Ca.trans hc⟩
  have PAY := Lib.hid pay
  clear pay hF1 hcf B1 P1 C1 z1 Ba Pa Ca za h hWa
  rw [hW1] at hD
  clear hW1
  have HD := Lib.hid hD; clear hD
  go_enter Tryz.func70, Tryz.ntmps70
  go_wp2_with (go_at_call 93; refine HD.out.mono ?_; rintro e w' ⟨rfl, hO⟩; obtain ⟨g, x0, x4, hG⟩ := PAY.out _ hO; clear hO)
  go_ret
  exact ⟨g, rfl, hG.out.2.1, hG.out.2.2, .inr ⟨rfl, hG.out.1⟩⟩

theorem mem_bytes (w : World) (p F t : Nat) (hF : F ≤ 256) (o : Option Nat) (V : Nat → Nat) (h : MemA w p o F V t) :
    Calls Tryz.prog 70 #[.pointer (some ⟨p, 0, none⟩)] w (Bytes w p F t o V) := by
  cases h with
  | un h => exact mem_bytes_new w p F t hF h
  | made h => exact mem_bytes_made w p _ F t V h

/-- what 'span' comes to where all is there -/
def Span (w : World) (p F t : Nat) (o : Option Nat) (V : Nat → Nat) (at_ n : Nat) (e : Ending) (w' : World) : Prop :=
  ∃ g off cap, e = .returned (.tuple #[.slice (some ⟨g, off, none⟩) n cap, .bool true]) ∧ (0 < n → off = at_) ∧ MemM w' p g F V t ∧ Chg (fun k => k = p) w w' ∧ (o = some g ∨ o = none ∧ w.heap.size ≤ g)
/-- and where not -/
def SpanNo (w : World) (p F t : Nat) (o : Option Nat) (V : Nat → Nat) (e : Ending) (w' : World) : Prop :=
  ∃ g, e = .returned (.tuple #[.slice none 0 0, .bool false]) ∧ MemM w' p g F V t ∧ Chg (fun k => k = p) w w' ∧ (o = some g ∨ o = none ∧ w.heap.size ≤ g)

set_option maxHeartbeats 800000 in
theorem mem_span (w : World) (p F t : Nat) (hF : F ≤ 256) (o : Option Nat) (V : Nat → Nat) (h : MemA w p o F V t) (at_ n : Nat) (hb : at_ + n ≤ F * 256) :
    Calls Tryz.prog 38 #[.pointer (some ⟨p, 0, none⟩), .int .u64 at_, .int .i64 n] w (Span w p F t o V at_ n) := by
  have HB := Lib.hid (mem_bytes w p F t hF o V h)
  clear h
  have t1 : decide (((F : Int) * 256) < (at_ : Int)) = false := decide_eq_false (by omega)
  have t2 : decide ((F : Int) * 256 - (at_ : Int) < (n : Int)) = false := decide_eq_false (by omega)
  go_enter Tryz.func38, Tryz.ntmps38
  go_wp2_with fail
  refine HB.out.mono ?_
  rintro e w' ⟨g, rfl, hm, hc, ho⟩
  have HM := Lib.hid (And.intro hm (And.intro hc ho)); clear hm hc ho
  go_wp2_with fail
  · go_ret2
    exact ⟨g, _, _, rfl, fun h => by omega, HM.out⟩
  · go_ret2
    exact ⟨g, _, _, rfl, fun h => rfl, HM.out⟩

theorem mem_span_no (w : World) (p F t : Nat) (hF : F ≤ 256) (o : Option Nat) (V : Nat → Nat) (h : MemA w p o F V t) (at_ : Nat) (n : Int) (hw : at_ < 18446744073709551616) (hb : F * 256 < at_ ∨ at_ ≤ F * 256 ∧ ((n < 0 ∧ -9223372036854775808 ≤ n) ∨ (F * 256 < at_ + n.toNat ∧ n ≤ 9223372036854775807))) :
    Calls Tryz.prog 38 #[.pointer (some ⟨p, 0, none⟩), .int .u64 at_, .int .i64 n] w (SpanNo w p F t o V) := by
  have HB := Lib.hid (mem_bytes w p F t hF o V h)
  clear h
  rcases hb with hb | ⟨hb0, hb⟩
  · have t1 : decide (((F : Int) * 256) < (at_ : Int)) = true := decide_eq_true (by omega)
    go_enter Tryz.func38, Tryz.ntmps38
    go_wp2_with fail
    refine HB.out.mono ?_
    rintro e w' ⟨g, rfl, hm⟩
    have HM := Lib.hid hm; clear hm
    go_wp2_with fail
    go_ret2
    exact ⟨g, rfl, HM.out⟩
  · have t1 : decide (((F : Int) * 256) < (at_ : Int)) = false := decide_eq_false (by omega)
    have t2 : decide ((F : Int) * 256 - (at_ : Int) < IntKind.u64.wrap n) = true := decide_eq_true (by simp [IntKind.wrap, IntKind.bits, IntKind.signed]; omega)
    obtain ⟨x, hx⟩ : ∃ x, IntKind.u64.wrap n = x := ⟨_, rfl⟩
    rw [hx] at t2
    go_enter Tryz.func38, Tryz.ntmps38
    go_wp2_with fail
    refine HB.out.mono ?_
    rintro e w' ⟨g, rfl, hm⟩
    have HM := Lib.hid hm; clear hm
    go_wp2_with fail
    go_ret2
    exact ⟨g, rfl, HM.out⟩
end Go.Proofs.YtijooajhjcfneaaGreat
