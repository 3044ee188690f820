/-
  Page tables in plain numbers: what an address comes to; the program's bits as quotients and rests.
-/
import Derived.Test.YtodjmfmenfncdaaRefMem3
import Derived.Laws.BitsAllLaws
namespace Go.Proofs.Ytodjmfmenfncdaa
open Go.RowKit

def entV (V : Nat → Nat) (a : Nat) : Nat := wOf (memStr V a 8)
theorem entV_lt (V : Nat → Nat) (a : Nat) : entV V a < 18446744073709551616 := wOf_lt _
theorem ldV8 (F : Nat) (V : Nat → Nat) (a : Nat) (h : a + 8 ≤ F * 256) : ldV F V a 8 = entV V a ∧ cdL F a 8 = 0 := by
  have e : cdL F a 8 = 0 := by
    unfold cdL
    rw [if_pos (by decide), if_pos (by show a + 8 ≤ F * 256; exact h)]
  exact ⟨by unfold ldV; rw [if_pos e]; rfl, e⟩

/-- an entry is none, or leads to a frame -/
def tbGo (F e : Nat) : Option Nat := if e % 2 = 0 ∨ e / 2 % 8 ≠ 0 ∨ F ≤ e / 1024 then none else some (e / 1024)
theorem tbGo_lt {F e x : Nat} (h : tbGo F e = some x) : x < F := by
  unfold tbGo at h
  split at h
  · cases h
  · cases h; omega
def tbLeaf (V : Nat → Nat) (F root at_ : Nat) : Option Nat :=
  (tbGo F (entV V (root * 256 + 8 * (at_ / 262144 % 32)))).bind fun a => (tbGo F (entV V (a * 256 + 8 * (at_ / 8192 % 32)))).map fun b => b * 256 + 8 * (at_ / 256 % 32)
theorem tbLeaf_lt {V : Nat → Nat} {F root at_ x : Nat} (h : tbLeaf V F root at_ = some x) : x + 8 ≤ F * 256 := by
  unfold tbLeaf at h
  rw [Option.bind_eq_some_iff] at h
  obtain ⟨a, _, h⟩ := h
  rw [Option.map_eq_some_iff] at h
  obtain ⟨b, hb, rfl⟩ := h
  have h1 := tbGo_lt hb
  have h2 := Nat.mod_lt (at_ / 256) (show 32 > 0 by decide)
  clear hb
  generalize at_ / 256 % 32 = k at *
  omega
/-- may it be reached so? -/
def tbMay (F e acc : Nat) : Bool := decide (e % 2 ≠ 0 ∧ e / 16 % 2 ≠ 0 ∧ e / 2 ^ acc % 2 ≠ 0 ∧ e / 1024 < F)
def tbWalk (V : Nat → Nat) (F root at_ acc : Nat) : Option Nat :=
  (tbLeaf V F root at_).bind fun x => if tbMay F (entV V x) acc = true then some (entV V x / 1024 * 256 + at_ % 256) else none

theorem and_mod (e m n : Nat) (hm : m < 2 ^ n) : e &&& m = (e % 2 ^ n) &&& m := by
  have h : (e &&& m) < 2 ^ n := Nat.lt_of_le_of_lt Nat.and_le_right hm
  have h2 := Nat.and_mod_two_pow (a := e) (b := m) (n := n)
  rw [Nat.mod_eq_of_lt h, Nat.mod_eq_of_lt hm] at h2
  exact h2
theorem and14_small : ∀ r : Nat, r < 16 → ((r &&& 14 = 0) ↔ (r / 2 % 8 = 0)) := by decide
theorem and14 (e : Nat) : (e &&& 14 = 0) ↔ (e / 2 % 8 = 0) := by
  rw [and_mod e 14 4 (by decide), and14_small (e % 16) (Nat.mod_lt _ (by decide))]
  omega
theorem want2_small : ∀ r : Nat, r < 32 → ((r &&& 19 = 19) ↔ (r % 2 ≠ 0 ∧ r / 16 % 2 ≠ 0 ∧ r / 2 % 2 ≠ 0)) := by decide
theorem want4_small : ∀ r : Nat, r < 32 → ((r &&& 21 = 21) ↔ (r % 2 ≠ 0 ∧ r / 16 % 2 ≠ 0 ∧ r / 4 % 2 ≠ 0)) := by decide
theorem want8_small : ∀ r : Nat, r < 32 → ((r &&& 25 = 25) ↔ (r % 2 ≠ 0 ∧ r / 16 % 2 ≠ 0 ∧ r / 8 % 2 ≠ 0)) := by decide
theorem want2 (e : Nat) : (e &&& 19 = 19) ↔ (e % 2 ≠ 0 ∧ e / 16 % 2 ≠ 0 ∧ e / 2 % 2 ≠ 0) := by
  rw [and_mod e 19 5 (by decide), want2_small (e % 32) (Nat.mod_lt _ (by decide))]
  omega
theorem want4 (e : Nat) : (e &&& 21 = 21) ↔ (e % 2 ≠ 0 ∧ e / 16 % 2 ≠ 0 ∧ e / 4 % 2 ≠ 0) := by
  rw [and_mod e 21 5 (by decide), want4_small (e % 32) (Nat.mod_lt _ (by decide))]
  omega
theorem want8 (e : Nat) : (e &&& 25 = 25) ↔ (e % 2 ≠ 0 ∧ e / 16 % 2 ≠ 0 ∧ e / 8 % 2 ≠ 0) := by
  rw [and_mod e 25 5 (by decide), want8_small (e % 32) (Nat.mod_lt _ (by decide))]
  omega

/-- a memory that owns none of the blocks of S, however often touched -/
def PY (S : Nat → Prop) (w : World) (p F : Nat) (V : Nat → Nat) : Prop := ∃ o t, t < 18446744073709551616 ∧ MemA w p o F V t ∧ (∀ k, MemOwn p o k → ¬ S k) ∧ ∀ k, S k → k < w.heap.size
def StepY (S : Nat → Prop) (w : World) (p F : Nat) (V : Nat → Nat) (v : Value) (e : Ending) (w' : World) : Prop := e = .returned v ∧ PY S w' p F V ∧ Chg (fun k => ¬ S k) w w'
theorem tc_lt' (F a : Nat) (n : Int) (t : Nat) (h : t < 18446744073709551616) : tc F a n t < 18446744073709551616 := by
  unfold tc; split <;> omega
theorem PY.left {S : Nat → Prop} {w w' : World} {p F t' : Nat} {o : Option Nat} {V' : Nat → Nat} {v : Value} {e : Ending} (ht : t' < 18446744073709551616) (hB : ∀ k, MemOwn p o k → ¬ S k) (hS : ∀ k, S k → k < w.heap.size) (k : MemK w p F t' o V' v e w') : StepY S w p F V' v e w' := by
  obtain ⟨he, o', hm, hc, hk⟩ := k
  exact ⟨he, ⟨o', t', ht, hm, fun k a => (hk k a).elim (hB k) (fun h h' => by have := hS k h'; omega), fun k h => Nat.lt_of_lt_of_le (hS k h) hc.size⟩, hc.mono hB⟩
theorem PY.nothing {S : Nat → Prop} {w w' : World} {p F : Nat} {V : Nat → Nat} (h : PY S w p F V) (c : Chg (fun _ => False) w w') : PY S w' p F V := by
  obtain ⟨o, t, ht, hm, hB, hS⟩ := h
  exact ⟨o, t, ht, hm.chg c (fun _ _ h => h), hB, fun k h => Nat.lt_of_lt_of_le (hS k h) c.size⟩
theorem PY.drew {S : Nat → Prop} {w : World} {p F : Nat} {V : Nat → Nat} (h : PY S w p F V) : PY S w.drew p F V := h.nothing (Chg.refl _ _).drew
theorem PY.small {S : Nat → Prop} {w : World} {p F : Nat} {V : Nat → Nat} (h : PY S w p F V) : ∀ i, V i < 256 := by
  obtain ⟨o, t, ht, hm, hB, hS⟩ := h
  exact hm.small
theorem py_load {S : Nat → Prop} {w : World} {p F : Nat} {V : Nat → Nat} (h : PY S w p F V) (hF : F ≤ 256) (a : Nat) (ha : a < 18446744073709551616) (n : Int) (x : Int) (hx : x = (a : Int)) :
    Calls Try.prog 37 #[.pointer (some ⟨p, 0, none⟩), .int .u64 x, .int .i64 n] w (StepY S w p F V (.tuple #[.int .u64 (ldV F V a n : Nat), .int .i64 (cdL F a n)])) := by
  obtain ⟨o, t, ht, hm, hB, hS⟩ := h
  subst hx
  exact (m_load w p F t hF ht o V hm a ha n).mono fun _ _ k => PY.left (tc_lt' _ _ _ _ ht) hB hS k
theorem py_load8 {S : Nat → Prop} {w : World} {p F : Nat} {V : Nat → Nat} (h : PY S w p F V) (hF : F ≤ 256) (a : Nat) (ha : a + 8 ≤ F * 256) (x : Int) (hx : x = (a : Int)) :
    Calls Try.prog 37 #[.pointer (some ⟨p, 0, none⟩), .int .u64 x, .int .i64 8] w (StepY S w p F V (.tuple #[.int .u64 (entV V a : Nat), .int .i64 0])) := by
  have k := py_load h hF a (by omega) 8 x hx
  rw [(ldV8 F V a ha).1, (ldV8 F V a ha).2] at k
  exact k
theorem py_store {S : Nat → Prop} {w : World} {p F : Nat} {V : Nat → Nat} (h : PY S w p F V) (hF : F ≤ 256) (a : Nat) (ha : a < 18446744073709551616) (n : Int) (v : Nat) (hv : v < 18446744073709551616) (x : Int) (hx : x = (a : Int)) :
    Calls Try.prog 33 #[.pointer (some ⟨p, 0, none⟩), .int .u64 x, .int .i64 n, .int .u64 v] w (StepY S w p F (stV F V a n v) (.int .i64 (cdL F a n))) := by
  obtain ⟨o, t, ht, hm, hB, hS⟩ := h
  subst hx
  exact (m_store w p F t hF ht o V hm a ha n v hv).mono fun _ _ k => PY.left (tc_lt' _ _ _ _ ht) hB hS k
theorem py_get {S : Nat → Prop} {w : World} {p F : Nat} {V : Nat → Nat} (h : PY S w p F V) (hF : F ≤ 256) (a : Nat) (ha : a < 18446744073709551616) (n : Int) (hn : n ≤ 9223372036854775807) (x : Int) (hx : x = (a : Int)) :
    Calls Try.prog 19 #[.pointer (some ⟨p, 0, none⟩), .int .u64 x, .int .i64 n] w (StepY S w p F V (.tuple #[.string (gtS F V a n), .int .i64 (cdG F a n)])) := by
  obtain ⟨o, t, ht, hm, hB, hS⟩ := h
  subst hx
  exact (m_get w p F t hF o V hm a ha n hn).mono fun _ _ k => PY.left ht hB hS k
theorem py_put {S : Nat → Prop} {w : World} {p F : Nat} {V : Nat → Nat} (h : PY S w p F V) (hF : F ≤ 256) (a : Nat) (ha : a < 18446744073709551616) (s : ByteArray) (hs : s.size ≤ maxLen) (x : Int) (hx : x = (a : Int)) :
    Calls Try.prog 60 #[.pointer (some ⟨p, 0, none⟩), .int .u64 x, .string s] w (StepY S w p F (ptV F V a s) (.int .i64 (cdP F a s))) := by
  obtain ⟨o, t, ht, hm, hB, hS⟩ := h
  subst hx
  exact (m_put w p F t hF o V hm a ha s hs).mono fun _ _ k => PY.left ht hB hS k
theorem py_copy {S : Nat → Prop} {w : World} {p F : Nat} {V : Nat → Nat} (h : PY S w p F V) (hF : F ≤ 256) (a b : Int) :
    Calls Try.prog 56 #[.pointer (some ⟨p, 0, none⟩), .int .i64 a, .int .i64 b] w (StepY S w p F (cpV F V a b) (.int .i64 (cdC F a b))) := by
  obtain ⟨o, t, ht, hm, hB, hS⟩ := h
  exact (m_copy w p F t hF o V hm a b).mono fun _ _ k => PY.left ht hB hS k
theorem py_frames {S : Nat → Prop} {w : World} {p F : Nat} {V : Nat → Nat} (h : PY S w p F V) :
    Calls Try.prog 35 #[.pointer (some ⟨p, 0, none⟩)] w fun e w' => e = .returned (.int .i64 F) ∧ w = w' := by
  obtain ⟨o, t, ht, hm, hB, hS⟩ := h
  exact phys_frames w p F t o V hm
end Go.Proofs.Ytodjmfmenfncdaa
