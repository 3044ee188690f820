/-
  Layer 3's statements: what they share.
-/
import Derived.Test.YtodjmfmenfncdaaPhBase
namespace Go.Proofs.Ytodjmfmenfncdaa
open Go.RowKit

theorem MT.small {B : Nat} {w : World} {p F : Nat} {V : Nat → Nat} (h : MT B w p F V) : ∀ i, V i < 256 := by
  obtain ⟨t, _, o, hm, _⟩ := h
  exact hm.small
theorem x_get {B : Nat} {w : World} {p F : Nat} {V : Nat → Nat} (h : MT B w p F V) (hF : F ≤ 256) (at_ : Nat) (hw : at_ < 18446744073709551616) (n : Int) (hn : n ≤ 9223372036854775807) :
    Calls Try.prog 19 #[.pointer (some ⟨p, 0, none⟩), .int .u64 at_, .int .i64 n] w (StepT B w p F V (.tuple #[.string (gtS F V at_ n), .int .i64 (cdG F at_ n)])) := by
  obtain ⟨t, ht, hm⟩ := h
  exact (s_get hm hF at_ hw n hn).mono fun _ _ ⟨h1, h2, h3⟩ => ⟨h1, ⟨_, ht, h2⟩, h3⟩
theorem x_getI {B : Nat} {w : World} {p F : Nat} {V : Nat → Nat} (h : MT B w p F V) (hF : F ≤ 256) (at_ : Nat) (hw : at_ < 18446744073709551616) (n : Int) (hn : n ≤ 9223372036854775807) (x : Int) (hx : x = (at_ : Int)) :
    Calls Try.prog 19 #[.pointer (some ⟨p, 0, none⟩), .int .u64 x, .int .i64 n] w (StepT B w p F V (.tuple #[.string (gtS F V at_ n), .int .i64 (cdG F at_ n)])) := by
  subst hx; exact x_get h hF at_ hw n hn
theorem x_put {B : Nat} {w : World} {p F : Nat} {V : Nat → Nat} (h : MT B w p F V) (hF : F ≤ 256) (at_ : Nat) (hw : at_ < 18446744073709551616) (s : ByteArray) (hs : s.size ≤ maxLen) :
    Calls Try.prog 60 #[.pointer (some ⟨p, 0, none⟩), .int .u64 at_, .string s] w (StepT B w p F (ptV F V at_ s) (.int .i64 (cdP F at_ s))) := by
  obtain ⟨t, ht, hm⟩ := h
  exact (s_put hm hF at_ hw s hs).mono fun _ _ ⟨h1, h2, h3⟩ => ⟨h1, ⟨_, ht, h2⟩, h3⟩
theorem x_clear {B : Nat} {w : World} {p F : Nat} {V : Nat → Nat} (h : MT B w p F V) (hF : F ≤ 256) (f : Int) :
    Calls Try.prog 74 #[.pointer (some ⟨p, 0, none⟩), .int .i64 f] w (StepT B w p F (clV F V f) (.int .i64 (cdF F f))) := by
  obtain ⟨t, ht, hm⟩ := h
  exact (s_clear hm hF f).mono fun _ _ ⟨h1, h2, h3⟩ => ⟨h1, ⟨_, ht, h2⟩, h3⟩
theorem x_copy {B : Nat} {w : World} {p F : Nat} {V : Nat → Nat} (h : MT B w p F V) (hF : F ≤ 256) (a b : Int) :
    Calls Try.prog 56 #[.pointer (some ⟨p, 0, none⟩), .int .i64 a, .int .i64 b] w (StepT B w p F (cpV F V a b) (.int .i64 (cdC F a b))) := by
  obtain ⟨t, ht, hm⟩ := h
  exact (s_copy hm hF a b).mono fun _ _ ⟨h1, h2, h3⟩ => ⟨h1, ⟨_, ht, h2⟩, h3⟩

/-- within the loop that puts -/
def PutAt (w : World) (p F : Nat) (wr : World) : Prop := ∃ V, MT w.heap.size wr p F V ∧ Below w.heap.size w wr

theorem memStr_congr {V V' : Nat → Nat} {a a' n : Nat} (h : ∀ i, i < n → V (a + i) = V' (a' + i)) : memStr V a n = memStr V' a' n := by
  unfold memStr
  congr 1
  apply List.map_congr_left
  intro i hi
  rw [h i (by simpa using hi)]
theorem below_drewN {B : Nat} {a w : World} (h : Below B a w) (n : Nat) : Below B a (w.drewN n) := ⟨h.os, h.tape, h.output, h.size, h.block⟩
theorem MT.drewN {B : Nat} {w : World} {p F : Nat} {V : Nat → Nat} (h : MT B w p F V) (n : Nat) : MT B (w.drewN n) p F V := by
  obtain ⟨t, ht, o, hm, hB⟩ := h
  exact ⟨t, ht, o, hm.chg (S := fun _ => False) ((Chg.refl _ _).drewN n) (fun _ _ h => h), hB⟩
theorem MT.drew {B : Nat} {w : World} {p F : Nat} {V : Nat → Nat} (h : MT B w p F V) : MT B w.drew p F V := by
  obtain ⟨t, ht, o, hm, hB⟩ := h
  exact ⟨t, ht, o, hm.chg (S := fun _ => False) (Chg.refl _ _).drew (fun _ _ h => h), hB⟩
end Go.Proofs.Ytodjmfmenfncdaa
