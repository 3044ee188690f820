/-
  Several texts in one: PhBase, PhActs, RefMem1, RefMem2, RefMem3, TyLaw, TyWalk1.
-/
import Derived.Test.YtijooajhjcfneaaG2
import Derived.Laws.BitsAllLaws
namespace Go.Proofs.Ytijooajhjcfneaa
open Go.RowKit

theorem u64_nat' {a : Int} (h : (Lit.int .u64 a).wf = true) : ∃ n : Nat, a = (n : Int) ∧ n < 18446744073709551616 := by
  simp [Lit.wf, IntKind.min, IntKind.max, IntKind.signed, IntKind.bits] at h
  exact ⟨a.toNat, by omega, by omega⟩

theorem byt_memStr (V : Nat → Nat) (hV : ∀ i, V i < 256) (a n j : Nat) (hj : j < n) : byt (memStr V a n) j = V (a + j) := by
  unfold byt memStr
  rw [strOfNums_data]
  have := hV (a + j)
  simp [List.getD, hj]
  omega
theorem wOf_one (V : Nat → Nat) (hV : ∀ i, V i < 256) (a : Nat) : wOf (memStr V a 1) = V a := by
  unfold wOf
  rw [memStr_size, show min 1 8 = 1 from rfl, wOfN, wOfN, byt_memStr V hV a 1 0 (by omega)]
  simp
theorem stV_small (F : Nat) (V : Nat → Nat) (at_ : Nat) (n : Int) (v : Nat) (h : ∀ i, V i < 256) : ∀ i, stV F V at_ n v i < 256 := by
  intro i; unfold stV; split; exact putV_small h (byt_lt _) i; exact h i
theorem tc_lt (F at_ : Nat) (n : Int) (t : Nat) (h : t < 18446744073709551616) : tc F at_ n t < 18446744073709551616 := by
  unfold tc; split; exact Nat.mod_lt _ (by omega); exact h

/-- a memory, however often touched -/
def MT (B : Nat) (w : World) (p F : Nat) (V : Nat → Nat) : Prop := ∃ t, t < 18446744073709551616 ∧ MS B w p F V t
def StepT (B : Nat) (w : World) (p F : Nat) (V : Nat → Nat) (v : Value) (e : Ending) (w' : World) : Prop := e = .returned v ∧ MT B w' p F V ∧ Below B w w'
theorem x_load {B : Nat} {w : World} {p F : Nat} {V : Nat → Nat} (h : MT B w p F V) (hF : F ≤ 256) (at_ : Nat) (hw : at_ < 18446744073709551616) (n : Int) :
    Calls Try.prog 51 #[.pointer (some ⟨p, 0, none⟩), .int .u64 at_, .int .i64 n] w (StepT B w p F V (.tuple #[.int .u64 (ldV F V at_ n : Nat), .int .i64 (cdL F at_ n)])) := by
  obtain ⟨t, ht, hm⟩ := h
  exact (s_load hm hF ht at_ hw n).mono fun _ _ ⟨h1, h2, h3⟩ => ⟨h1, ⟨_, tc_lt _ _ _ _ ht, h2⟩, h3⟩
theorem x_store {B : Nat} {w : World} {p F : Nat} {V : Nat → Nat} (h : MT B w p F V) (hF : F ≤ 256) (at_ : Nat) (hw : at_ < 18446744073709551616) (n : Int) (v : Nat) (hv : v < 18446744073709551616) :
    Calls Try.prog 64 #[.pointer (some ⟨p, 0, none⟩), .int .u64 at_, .int .i64 n, .int .u64 v] w (StepT B w p F (stV F V at_ n v) (.int .i64 (cdL F at_ n))) := by
  obtain ⟨t, ht, hm⟩ := h
  exact (s_store hm hF ht at_ hw n v hv).mono fun _ _ ⟨h1, h2, h3⟩ => ⟨h1, ⟨_, tc_lt _ _ _ _ ht, h2⟩, h3⟩

theorem cdL_cases (F at_ : Nat) (n : Int) : cdL F at_ n = 0 ∧ (n = 1 ∨ n = 2 ∨ n = 4 ∨ n = 8) ∧ at_ + n.toNat ≤ F * 256 ∨ cdL F at_ n = 1 ∧ wSized n = false ∨ cdL F at_ n = 3 := by
  unfold cdL
  by_cases h : wSized n = true
  · rw [if_pos h]
    have := wSized_le h
    by_cases h2 : at_ + n.toNat ≤ F * 256
    · rw [if_pos h2]; exact .inl ⟨rfl, this, h2⟩
    · rw [if_neg h2]; exact .inr (.inr rfl)
  · rw [if_neg h]; exact .inr (.inl ⟨rfl, by simpa using h⟩)

end Go.Proofs.Ytijooajhjcfneaa

namespace Go.Proofs.Ytijooajhjcfneaa
open Go.RowKit

theorem MT.small {B : Nat} {w : World} {p F : Nat} {V : Nat → Nat} (h : MT B w p F V) : ∀ i, V i < 256 := by
  obtain ⟨t, _, o, hm, _⟩ := h
  exact hm.small
theorem x_put {B : Nat} {w : World} {p F : Nat} {V : Nat → Nat} (h : MT B w p F V) (hF : F ≤ 256) (at_ : Nat) (hw : at_ < 18446744073709551616) (s : ByteArray) (hs : s.size ≤ maxLen) :
    Calls Try.prog 52 #[.pointer (some ⟨p, 0, none⟩), .int .u64 at_, .string s] w (StepT B w p F (ptV F V at_ s) (.int .i64 (cdP F at_ s))) := by
  obtain ⟨t, ht, hm⟩ := h
  exact (s_put hm hF at_ hw s hs).mono fun _ _ ⟨h1, h2, h3⟩ => ⟨h1, ⟨_, ht, h2⟩, h3⟩
theorem x_clear {B : Nat} {w : World} {p F : Nat} {V : Nat → Nat} (h : MT B w p F V) (hF : F ≤ 256) (f : Int) :
    Calls Try.prog 56 #[.pointer (some ⟨p, 0, none⟩), .int .i64 f] w (StepT B w p F (clV F V f) (.int .i64 (cdF F f))) := by
  obtain ⟨t, ht, hm⟩ := h
  exact (s_clear hm hF f).mono fun _ _ ⟨h1, h2, h3⟩ => ⟨h1, ⟨_, ht, h2⟩, h3⟩
/-- within the loop that puts -/
def PutAt (w : World) (p F : Nat) (wr : World) : Prop := ∃ V, MT w.heap.size wr p F V ∧ Below w.heap.size w wr

theorem memStr_congr {V V' : Nat → Nat} {a a' n : Nat} (h : ∀ i, i < n → V (a + i) = V' (a' + i)) : memStr V a n = memStr V' a' n := by
  unfold memStr
  congr 1
  apply List.map_congr_left
  intro i hi
  rw [h i (by simpa using hi)]
theorem below_drewN {B : Nat} {a w : World} (h : Below B a w) (n : Nat) : Below B a (w.drewN n) := ⟨h.os, h.tape, h.output, h.size, h.block⟩
theorem MT.drewN {B : Nat} {w : World} {p F : Nat} {V : Nat → Nat} (h : MT B w p F V) (n : Nat) : MT B (w.drewN n) p F V := by
  obtain ⟨t, ht, o, hm, hB⟩ := h
  exact ⟨t, ht, o, hm.chg (S := fun _ => False) ((Chg.refl _ _).drewN n) (fun _ _ h => h), hB⟩
theorem MT.drew {B : Nat} {w : World} {p F : Nat} {V : Nat → Nat} (h : MT B w p F V) : MT B w.drew p F V := by
  obtain ⟨t, ht, o, hm, hB⟩ := h
  exact ⟨t, ht, o, hm.chg (S := fun _ => False) (Chg.refl _ _).drew (fun _ _ h => h), hB⟩
end Go.Proofs.Ytijooajhjcfneaa

namespace Go.Proofs.Ytijooajhjcfneaa
open Go.RowKit

theorem row_string (w : World) (g N : Nat) (V : Nat → Nat) (h : Row w g N V) (off at_ n cap : Nat) (ho : 0 < n → off = at_) (hfit : at_ + n ≤ N) :
    (convert 55 9 (.slice (some ⟨g, off, none⟩) n cap)).run Try.prog w = .ok (.string (memStr V at_ n)) w := by
  by_cases h0 : n = 0
  · subst h0
    rw [run_convert_bytes_zero w _ ByT Try.underlying55 Try.underlying5 _ _ 9 Try.underlying9]
    rfl
  · obtain rfl := ho (by omega)
    obtain ⟨cs, hb, hs, hv⟩ := h
    refine run_convert_bytes_arg w 55 ByT Try.underlying55 Try.underlying5 g off n cap _ (by simp) (fun i hi => ?_) 9 Try.underlying9
    rw [hb.cell, hv _ (by omega)]
    simp [List.getD, hi]

end Go.Proofs.Ytijooajhjcfneaa

namespace Go.Proofs.Ytijooajhjcfneaa
open Go.RowKit

end Go.Proofs.Ytijooajhjcfneaa

namespace Go.Proofs.Ytijooajhjcfneaa
open Go.RowKit

end Go.Proofs.Ytijooajhjcfneaa

namespace Go.Proofs.Ytijooajhjcfneaa
open Go.RowKit

def entV (V : Nat → Nat) (a : Nat) : Nat := wOf (memStr V a 8)
theorem entV_lt (V : Nat → Nat) (a : Nat) : entV V a < 18446744073709551616 := wOf_lt _
theorem ldV8 (F : Nat) (V : Nat → Nat) (a : Nat) (h : a + 8 ≤ F * 256) : ldV F V a 8 = entV V a ∧ cdL F a 8 = 0 := by
  have e : cdL F a 8 = 0 := by
    unfold cdL
    rw [if_pos (by decide), if_pos (by show a + 8 ≤ F * 256; exact h)]
  exact ⟨by unfold ldV; rw [if_pos e]; rfl, e⟩

/-- an entry is none, or leads to a frame -/
def tbGo (F e : Nat) : Option Nat := if e % 2 = 0 ∨ e / 2 % 8 ≠ 0 ∨ F ≤ e / 1024 then none else some (e / 1024)
theorem tbGo_lt {F e x : Nat} (h : tbGo F e = some x) : x < F := by
  unfold tbGo at h
  split at h
  · cases h
  · cases h; omega
def tbLeaf (V : Nat → Nat) (F root at_ : Nat) : Option Nat :=
  (tbGo F (entV V (root * 256 + 8 * (at_ / 262144 % 32)))).bind fun a => (tbGo F (entV V (a * 256 + 8 * (at_ / 8192 % 32)))).map fun b => b * 256 + 8 * (at_ / 256 % 32)
theorem tbLeaf_lt {V : Nat → Nat} {F root at_ x : Nat} (h : tbLeaf V F root at_ = some x) : x + 8 ≤ F * 256 := by
  unfold tbLeaf at h
  rw [Option.bind_eq_some_iff] at h
  obtain ⟨a, _, h⟩ := h
  rw [Option.map_eq_some_iff] at h
  obtain ⟨b, hb, rfl⟩ := h
  have h1 := tbGo_lt hb
  have h2 := Nat.mod_lt (at_ / 256) (show 32 > 0 by decide)
  clear hb
  generalize at_ / 256 % 32 = k at *
  omega
/-- may it be reached so? -/
def tbMay (F e acc : Nat) : Bool := decide (e % 2 ≠ 0 ∧ e / 16 % 2 ≠ 0 ∧ e / 2 ^ acc % 2 ≠ 0 ∧ e / 1024 < F)
def tbWalk (V : Nat → Nat) (F root at_ acc : Nat) : Option Nat :=
  (tbLeaf V F root at_).bind fun x => if tbMay F (entV V x) acc = true then some (entV V x / 1024 * 256 + at_ % 256) else none

theorem and_mod (e m n : Nat) (hm : m < 2 ^ n) : e &&& m = (e % 2 ^ n) &&& m := by
  have h : (e &&& m) < 2 ^ n := Nat.lt_of_le_of_lt Nat.and_le_right hm
  have h2 := Nat.and_mod_two_pow (a := e) (b := m) (n := n)
  rw [Nat.mod_eq_of_lt h, Nat.mod_eq_of_lt hm] at h2
  exact h2
theorem and14_small : ∀ r : Nat, r < 16 → ((r &&& 14 = 0) ↔ (r / 2 % 8 = 0)) := by decide
theorem and14 (e : Nat) : (e &&& 14 = 0) ↔ (e / 2 % 8 = 0) := by
  rw [and_mod e 14 4 (by decide), and14_small (e % 16) (Nat.mod_lt _ (by decide))]
  omega
theorem want2_small : ∀ r : Nat, r < 32 → ((r &&& 19 = 19) ↔ (r % 2 ≠ 0 ∧ r / 16 % 2 ≠ 0 ∧ r / 2 % 2 ≠ 0)) := by decide
theorem want4_small : ∀ r : Nat, r < 32 → ((r &&& 21 = 21) ↔ (r % 2 ≠ 0 ∧ r / 16 % 2 ≠ 0 ∧ r / 4 % 2 ≠ 0)) := by decide
theorem want8_small : ∀ r : Nat, r < 32 → ((r &&& 25 = 25) ↔ (r % 2 ≠ 0 ∧ r / 16 % 2 ≠ 0 ∧ r / 8 % 2 ≠ 0)) := by decide
theorem want2 (e : Nat) : (e &&& 19 = 19) ↔ (e % 2 ≠ 0 ∧ e / 16 % 2 ≠ 0 ∧ e / 2 % 2 ≠ 0) := by
  rw [and_mod e 19 5 (by decide), want2_small (e % 32) (Nat.mod_lt _ (by decide))]
  omega
theorem want4 (e : Nat) : (e &&& 21 = 21) ↔ (e % 2 ≠ 0 ∧ e / 16 % 2 ≠ 0 ∧ e / 4 % 2 ≠ 0) := by
  rw [and_mod e 21 5 (by decide), want4_small (e % 32) (Nat.mod_lt _ (by decide))]
  omega
theorem want8 (e : Nat) : (e &&& 25 = 25) ↔ (e % 2 ≠ 0 ∧ e / 16 % 2 ≠ 0 ∧ e / 8 % 2 ≠ 0) := by
  rw [and_mod e 25 5 (by decide), want8_small (e % 32) (Nat.mod_lt _ (by decide))]
  omega

/-- a memory that owns none of the blocks of S, however often touched -/
def PY (S : Nat → Prop) (w : World) (p F : Nat) (V : Nat → Nat) : Prop := ∃ o t, t < 18446744073709551616 ∧ MemA w p o F V t ∧ (∀ k, MemOwn p o k → ¬ S k) ∧ ∀ k, S k → k < w.heap.size
def StepY (S : Nat → Prop) (w : World) (p F : Nat) (V : Nat → Nat) (v : Value) (e : Ending) (w' : World) : Prop := e = .returned v ∧ PY S w' p F V ∧ Chg (fun k => ¬ S k) w w'
theorem tc_lt' (F a : Nat) (n : Int) (t : Nat) (h : t < 18446744073709551616) : tc F a n t < 18446744073709551616 := by
  unfold tc; split <;> omega
theorem PY.left {S : Nat → Prop} {w w' : World} {p F t' : Nat} {o : Option Nat} {V' : Nat → Nat} {v : Value} {e : Ending} (ht : t' < 18446744073709551616) (hB : ∀ k, MemOwn p o k → ¬ S k) (hS : ∀ k, S k → k < w.heap.size) (k : MemK w p F t' o V' v e w') : StepY S w p F V' v e w' := by
  obtain ⟨he, o', hm, hc, hk⟩ := k
  exact ⟨he, ⟨o', t', ht, hm, fun k a => (hk k a).elim (hB k) (fun h h' => by have := hS k h'; omega), fun k h => Nat.lt_of_lt_of_le (hS k h) hc.size⟩, hc.mono hB⟩
theorem PY.nothing {S : Nat → Prop} {w w' : World} {p F : Nat} {V : Nat → Nat} (h : PY S w p F V) (c : Chg (fun _ => False) w w') : PY S w' p F V := by
  obtain ⟨o, t, ht, hm, hB, hS⟩ := h
  exact ⟨o, t, ht, hm.chg c (fun _ _ h => h), hB, fun k h => Nat.lt_of_lt_of_le (hS k h) c.size⟩
theorem PY.drew {S : Nat → Prop} {w : World} {p F : Nat} {V : Nat → Nat} (h : PY S w p F V) : PY S w.drew p F V := h.nothing (Chg.refl _ _).drew
theorem PY.small {S : Nat → Prop} {w : World} {p F : Nat} {V : Nat → Nat} (h : PY S w p F V) : ∀ i, V i < 256 := by
  obtain ⟨o, t, ht, hm, hB, hS⟩ := h
  exact hm.small
theorem py_load {S : Nat → Prop} {w : World} {p F : Nat} {V : Nat → Nat} (h : PY S w p F V) (hF : F ≤ 256) (a : Nat) (ha : a < 18446744073709551616) (n : Int) (x : Int) (hx : x = (a : Int)) :
    Calls Try.prog 51 #[.pointer (some ⟨p, 0, none⟩), .int .u64 x, .int .i64 n] w (StepY S w p F V (.tuple #[.int .u64 (ldV F V a n : Nat), .int .i64 (cdL F a n)])) := by
  obtain ⟨o, t, ht, hm, hB, hS⟩ := h
  subst hx
  exact (m_load w p F t hF ht o V hm a ha n).mono fun _ _ k => PY.left (tc_lt' _ _ _ _ ht) hB hS k
theorem py_load8 {S : Nat → Prop} {w : World} {p F : Nat} {V : Nat → Nat} (h : PY S w p F V) (hF : F ≤ 256) (a : Nat) (ha : a + 8 ≤ F * 256) (x : Int) (hx : x = (a : Int)) :
    Calls Try.prog 51 #[.pointer (some ⟨p, 0, none⟩), .int .u64 x, .int .i64 8] w (StepY S w p F V (.tuple #[.int .u64 (entV V a : Nat), .int .i64 0])) := by
  have k := py_load h hF a (by omega) 8 x hx
  rw [(ldV8 F V a ha).1, (ldV8 F V a ha).2] at k
  exact k
theorem py_store {S : Nat → Prop} {w : World} {p F : Nat} {V : Nat → Nat} (h : PY S w p F V) (hF : F ≤ 256) (a : Nat) (ha : a < 18446744073709551616) (n : Int) (v : Nat) (hv : v < 18446744073709551616) (x : Int) (hx : x = (a : Int)) :
    Calls Try.prog 64 #[.pointer (some ⟨p, 0, none⟩), .int .u64 x, .int .i64 n, .int .u64 v] w (StepY S w p F (stV F V a n v) (.int .i64 (cdL F a n))) := by
  obtain ⟨o, t, ht, hm, hB, hS⟩ := h
  subst hx
  exact (m_store w p F t hF ht o V hm a ha n v hv).mono fun _ _ k => PY.left (tc_lt' _ _ _ _ ht) hB hS k
theorem py_put {S : Nat → Prop} {w : World} {p F : Nat} {V : Nat → Nat} (h : PY S w p F V) (hF : F ≤ 256) (a : Nat) (ha : a < 18446744073709551616) (s : ByteArray) (hs : s.size ≤ maxLen) (x : Int) (hx : x = (a : Int)) :
    Calls Try.prog 52 #[.pointer (some ⟨p, 0, none⟩), .int .u64 x, .string s] w (StepY S w p F (ptV F V a s) (.int .i64 (cdP F a s))) := by
  obtain ⟨o, t, ht, hm, hB, hS⟩ := h
  subst hx
  exact (m_put w p F t hF o V hm a ha s hs).mono fun _ _ k => PY.left ht hB hS k
theorem py_frames {S : Nat → Prop} {w : World} {p F : Nat} {V : Nat → Nat} (h : PY S w p F V) :
    Calls Try.prog 31 #[.pointer (some ⟨p, 0, none⟩)] w fun e w' => e = .returned (.int .i64 F) ∧ w = w' := by
  obtain ⟨o, t, ht, hm, hB, hS⟩ := h
  exact phys_frames w p F t o V hm
end Go.Proofs.Ytijooajhjcfneaa

namespace Go.Proofs.Ytijooajhjcfneaa
open Go.RowKit

theorem i64_and_nat (a b : Nat) (ha : a < 9223372036854775808) (hb : b < 9223372036854775808) : bits .and .i64 (a : Int) (b : Int) = ((a &&& b : Nat) : Int) := by
  have h : (BitVec.ofInt 64 (a : Int) &&& BitVec.ofInt 64 (b : Int)).toNat = a &&& b := by
    rw [BitVec.toNat_and, ofInt_u64 a (by omega), ofInt_u64 b (by omega)]
  have hle : (a &&& b) ≤ a := Nat.and_le_left
  show IntKind.i64.wrap (((BitVec.ofInt 64 (a : Int) &&& BitVec.ofInt 64 (b : Int)).toNat : Nat) : Int) = _
  rw [h]
  generalize a &&& b = c at *
  simp [IntKind.wrap, IntKind.bits, IntKind.signed]
  omega

/-- the part of an address at a level -/
def tbPart (at_ : Nat) (l : Nat) : Nat := if at_ < 8388608 then at_ / 2 ^ (8 + 5 * l) % 32 else 0
theorem tbPart_lt (at_ l : Nat) : tbPart at_ l < 32 := by
  unfold tbPart
  split
  · exact Nat.mod_lt _ (by decide)
  · omega

theorem tb_part_out (w : World) (at_ : Nat) (h : 8388608 ≤ at_) (l : Int) (hl : 0 ≤ l ∧ l < 3) :
    Calls Try.prog 65 #[.int .u64 at_, .int .i64 l] w fun e w' => e = .returned (.int .i64 0) ∧ w = w' := by
  have d1 : decide (l < (0 : Int)) = false := decide_eq_false (by omega)
  have d2 : decide ((3 : Int) ≤ l) = false := decide_eq_false (by omega)
  have d3 : decide ((8388608 : Int) ≤ (at_ : Int)) = true := decide_eq_true (by omega)
  go_enter Try.func65, Try.ntmps65
  go_wp2_with fail
  go_ret
  exact ⟨rfl, rfl⟩
theorem tb_part0 (w : World) (at_ : Nat) (h : at_ < 8388608) :
    Calls Try.prog 65 #[.int .u64 at_, .int .i64 0] w fun e w' => e = .returned (.int .i64 (at_ / 256 % 32 : Nat)) ∧ w = w' := by
  have d3 : decide ((8388608 : Int) ≤ (at_ : Int)) = false := decide_eq_false (by omega)
  have d4 : ¬ 8388608 ≤ at_ := by omega
  have q1 : wrap64 ((at_ : Int) / 256) = (at_ : Int) / 256 := by unfold wrap64; omega
  have q2 : bits BinOp.and IntKind.i64 ((at_ : Int) / 256) 31 = ((at_ / 256 % 32 : Nat) : Int) := by
    have h1 := i64_and_nat (at_ / 256) 31 (by omega) (by omega)
    rw [nat_mask5] at h1
    exact h1
  generalize at_ / 256 % 32 = k at *
  go_enter Try.func65, Try.ntmps65
  go_wp2_with fail
  go_ret
  exact ⟨rfl, rfl⟩
theorem tb_part1 (w : World) (at_ : Nat) (h : at_ < 8388608) :
    Calls Try.prog 65 #[.int .u64 at_, .int .i64 1] w fun e w' => e = .returned (.int .i64 (at_ / 8192 % 32 : Nat)) ∧ w = w' := by
  have d3 : decide ((8388608 : Int) ≤ (at_ : Int)) = false := decide_eq_false (by omega)
  have d4 : ¬ 8388608 ≤ at_ := by omega
  have q1 : wrap64 ((at_ : Int) / 8192) = (at_ : Int) / 8192 := by unfold wrap64; omega
  have q2 : bits BinOp.and IntKind.i64 ((at_ : Int) / 8192) 31 = ((at_ / 8192 % 32 : Nat) : Int) := by
    have h1 := i64_and_nat (at_ / 8192) 31 (by omega) (by omega)
    rw [nat_mask5] at h1
    exact h1
  generalize at_ / 8192 % 32 = k at *
  go_enter Try.func65, Try.ntmps65
  go_wp2_with fail
  go_ret
  exact ⟨rfl, rfl⟩
theorem tb_part2 (w : World) (at_ : Nat) (h : at_ < 8388608) :
    Calls Try.prog 65 #[.int .u64 at_, .int .i64 2] w fun e w' => e = .returned (.int .i64 (at_ / 262144 % 32 : Nat)) ∧ w = w' := by
  have d3 : decide ((8388608 : Int) ≤ (at_ : Int)) = false := decide_eq_false (by omega)
  have d4 : ¬ 8388608 ≤ at_ := by omega
  have q1 : wrap64 ((at_ : Int) / 262144) = (at_ : Int) / 262144 := by unfold wrap64; omega
  have q2 : bits BinOp.and IntKind.i64 ((at_ : Int) / 262144) 31 = ((at_ / 262144 % 32 : Nat) : Int) := by
    have h1 := i64_and_nat (at_ / 262144) 31 (by omega) (by omega)
    rw [nat_mask5] at h1
    exact h1
  generalize at_ / 262144 % 32 = k at *
  go_enter Try.func65, Try.ntmps65
  go_wp2_with fail
  go_ret
  exact ⟨rfl, rfl⟩
theorem tb_frame (w : World) (e : Nat) (_he : e < 18446744073709551616) :
    Calls Try.prog 40 #[.int .u64 e] w fun r w' => r = .returned (.int .u64 (e / 1024 : Nat)) ∧ w = w' := by
  go_enter Try.func40, Try.ntmps40
  go_wp2_with fail
  go_ret
  exact ⟨by simp, rfl⟩
end Go.Proofs.Ytijooajhjcfneaa
