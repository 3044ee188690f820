/-
  Memories, however often touched: what the statements share.
-/
import Derived.Test.YtodjmfmenfncdaaMem8
import Derived.Test.YtodjmfmenfncdaaRefBytes
namespace Go.Proofs.Ytodjmfmenfncdaa
open Go.RowKit

theorem u64_nat' {a : Int} (h : (Lit.int .u64 a).wf = true) : ∃ n : Nat, a = (n : Int) ∧ n < 18446744073709551616 := by
  simp [Lit.wf, IntKind.min, IntKind.max, IntKind.signed, IntKind.bits] at h
  exact ⟨a.toNat, by omega, by omega⟩

theorem byt_memStr (V : Nat → Nat) (hV : ∀ i, V i < 256) (a n j : Nat) (hj : j < n) : byt (memStr V a n) j = V (a + j) := by
  unfold byt memStr
  rw [strOfNums_data]
  have := hV (a + j)
  simp [List.getD, hj]
  omega
theorem wOf_one (V : Nat → Nat) (hV : ∀ i, V i < 256) (a : Nat) : wOf (memStr V a 1) = V a := by
  unfold wOf
  rw [memStr_size, show min 1 8 = 1 from rfl, wOfN, wOfN, byt_memStr V hV a 1 0 (by omega)]
  simp
theorem stV_small (F : Nat) (V : Nat → Nat) (at_ : Nat) (n : Int) (v : Nat) (h : ∀ i, V i < 256) : ∀ i, stV F V at_ n v i < 256 := by
  intro i; unfold stV; split; exact putV_small h (byt_lt _) i; exact h i
theorem tc_lt (F at_ : Nat) (n : Int) (t : Nat) (h : t < 18446744073709551616) : tc F at_ n t < 18446744073709551616 := by
  unfold tc; split; exact Nat.mod_lt _ (by omega); exact h

/-- a memory, however often touched -/
def MT (B : Nat) (w : World) (p F : Nat) (V : Nat → Nat) : Prop := ∃ t, t < 18446744073709551616 ∧ MS B w p F V t
def StepT (B : Nat) (w : World) (p F : Nat) (V : Nat → Nat) (v : Value) (e : Ending) (w' : World) : Prop := e = .returned v ∧ MT B w' p F V ∧ Below B w w'
theorem x_load {B : Nat} {w : World} {p F : Nat} {V : Nat → Nat} (h : MT B w p F V) (hF : F ≤ 256) (at_ : Nat) (hw : at_ < 18446744073709551616) (n : Int) :
    Calls Try.prog 37 #[.pointer (some ⟨p, 0, none⟩), .int .u64 at_, .int .i64 n] w (StepT B w p F V (.tuple #[.int .u64 (ldV F V at_ n : Nat), .int .i64 (cdL F at_ n)])) := by
  obtain ⟨t, ht, hm⟩ := h
  exact (s_load hm hF ht at_ hw n).mono fun _ _ ⟨h1, h2, h3⟩ => ⟨h1, ⟨_, tc_lt _ _ _ _ ht, h2⟩, h3⟩
theorem x_store {B : Nat} {w : World} {p F : Nat} {V : Nat → Nat} (h : MT B w p F V) (hF : F ≤ 256) (at_ : Nat) (hw : at_ < 18446744073709551616) (n : Int) (v : Nat) (hv : v < 18446744073709551616) :
    Calls Try.prog 33 #[.pointer (some ⟨p, 0, none⟩), .int .u64 at_, .int .i64 n, .int .u64 v] w (StepT B w p F (stV F V at_ n v) (.int .i64 (cdL F at_ n))) := by
  obtain ⟨t, ht, hm⟩ := h
  exact (s_store hm hF ht at_ hw n v hv).mono fun _ _ ⟨h1, h2, h3⟩ => ⟨h1, ⟨_, tc_lt _ _ _ _ ht, h2⟩, h3⟩

theorem cdL_cases (F at_ : Nat) (n : Int) : cdL F at_ n = 0 ∧ (n = 1 ∨ n = 2 ∨ n = 4 ∨ n = 8) ∧ at_ + n.toNat ≤ F * 256 ∨ cdL F at_ n = 1 ∧ wSized n = false ∨ cdL F at_ n = 3 := by
  unfold cdL
  by_cases h : wSized n = true
  · rw [if_pos h]
    have := wSized_le h
    by_cases h2 : at_ + n.toNat ≤ F * 256
    · rw [if_pos h2]; exact .inl ⟨rfl, this, h2⟩
    · rw [if_neg h2]; exact .inr (.inr rfl)
  · rw [if_neg h]; exact .inr (.inl ⟨rfl, by simpa using h⟩)

end Go.Proofs.Ytodjmfmenfncdaa
