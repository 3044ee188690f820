/-
  Each call on a memory, however it ends, by one contract; a memory that is new since B.
-/
import Derived.Test.YtodjmfmenfncdaaMem7
namespace Go.Proofs.Ytodjmfmenfncdaa
open Go.RowKit

def cdL (F at_ : Nat) (n : Int) : Int := if wSized n = true then (if at_ + n.toNat ≤ F * 256 then 0 else 3) else 1
def ldV (F : Nat) (V : Nat → Nat) (at_ : Nat) (n : Int) : Nat := if cdL F at_ n = 0 then wOf (memStr V at_ n.toNat) else 0
def tc (F at_ : Nat) (n : Int) (t : Nat) : Nat := if cdL F at_ n = 0 then (t + 1) % 18446744073709551616 else t
def stV (F : Nat) (V : Nat → Nat) (at_ : Nat) (n : Int) (v : Nat) : Nat → Nat := if cdL F at_ n = 0 then putV V at_ n.toNat (byt (wBytes v n)) else V
def cdG (F at_ : Nat) (n : Int) : Int := if n < 0 then 1 else if at_ + n.toNat ≤ F * 256 then 0 else 3
def gtS (F : Nat) (V : Nat → Nat) (at_ : Nat) (n : Int) : ByteArray := if cdG F at_ n = 0 then memStr V at_ n.toNat else ByteArray.empty
def cdP (F at_ : Nat) (s : ByteArray) : Int := if at_ + s.size ≤ F * 256 then 0 else 3
def ptV (F : Nat) (V : Nat → Nat) (at_ : Nat) (s : ByteArray) : Nat → Nat := if cdP F at_ s = 0 then putV V at_ s.size (byt s) else V
def cdF (F : Nat) (f : Int) : Int := if 0 ≤ f ∧ f < F then 0 else 3
def clV (F : Nat) (V : Nat → Nat) (f : Int) : Nat → Nat := if cdF F f = 0 then putV V (f.toNat * 256) 256 (fun _ => 0) else V
def cdC (F : Nat) (a b : Int) : Int := if 0 ≤ a ∧ a < F ∧ 0 ≤ b ∧ b < F then 0 else 3
def cpV (F : Nat) (V : Nat → Nat) (a b : Int) : Nat → Nat := if cdC F a b = 0 then putV V (a.toNat * 256) 256 (fun i => V (b.toNat * 256 + i)) else V

theorem keep_same {P : Program} {f : FuncId} {args : Array Value} {w : World} {p F t : Nat} {o : Option Nat} {V : Nat → Nat} {v : Value} (h : MemA w p o F V t)
    (c : Calls P f args w fun e w' => e = .returned v ∧ w = w') : Calls P f args w (MemK w p F t o V v) :=
  c.mono fun _ _ ⟨he, hw⟩ => by subst he hw; exact h.keep

theorem m_load (w : World) (p F t : Nat) (hF : F ≤ 256) (ht : t < 18446744073709551616) (o : Option Nat) (V : Nat → Nat) (h : MemA w p o F V t) (at_ : Nat) (hw : at_ < 18446744073709551616) (n : Int) :
    Calls Try.prog 37 #[.pointer (some ⟨p, 0, none⟩), .int .u64 at_, .int .i64 n] w (MemK w p F (tc F at_ n t) o V (.tuple #[.int .u64 (ldV F V at_ n : Nat), .int .i64 (cdL F at_ n)])) := by
  by_cases hs : wSized n = true
  · have hn := wSized_le hs
    obtain ⟨m, rfl⟩ := Int.eq_ofNat_of_zero_le (show 0 ≤ n by omega)
    by_cases hf : at_ + m ≤ F * 256
    · have e : cdL F at_ (m : Int) = 0 := by simp [cdL, hs, hf]
      simp only [tc, ldV, e, if_true, Int.toNat_natCast]
      exact (mem_load w p F t hF ht o V h at_ m hs hf).mono fun _ _ h => h.keep
    · have e : cdL F at_ (m : Int) = 3 := by simp [cdL, hs, hf]
      simp only [tc, ldV, e]
      exact (mem_load_no w p F t hF o V h at_ m hw hs (by omega)).mono fun _ _ h => h.keep
  · have e : cdL F at_ n = 1 := by simp [cdL, hs]
    simp only [tc, ldV, e]
    exact keep_same h (mem_load_arg w p at_ n (by simpa using hs))

theorem m_store (w : World) (p F t : Nat) (hF : F ≤ 256) (ht : t < 18446744073709551616) (o : Option Nat) (V : Nat → Nat) (h : MemA w p o F V t) (at_ : Nat) (hw : at_ < 18446744073709551616) (n : Int) (v : Nat) (hv : v < 18446744073709551616) :
    Calls Try.prog 33 #[.pointer (some ⟨p, 0, none⟩), .int .u64 at_, .int .i64 n, .int .u64 v] w (MemK w p F (tc F at_ n t) o (stV F V at_ n v) (.int .i64 (cdL F at_ n))) := by
  by_cases hs : wSized n = true
  · have hn := wSized_le hs
    obtain ⟨m, rfl⟩ := Int.eq_ofNat_of_zero_le (show 0 ≤ n by omega)
    by_cases hf : at_ + m ≤ F * 256
    · have e : cdL F at_ (m : Int) = 0 := by simp [cdL, hs, hf]
      simp only [tc, stV, e, if_true, Int.toNat_natCast]
      exact (mem_store w p F t hF ht o V h at_ m v hv hs hf).mono fun _ _ h => h.keep
    · have e : cdL F at_ (m : Int) = 3 := by simp [cdL, hs, hf]
      simp only [tc, stV, e]
      exact (mem_store_no w p F t hF o V h at_ m v hw hs (by omega)).mono fun _ _ h => h.keep
  · have e : cdL F at_ n = 1 := by simp [cdL, hs]
    simp only [tc, stV, e]
    exact keep_same h (mem_store_arg w p at_ v n (by simpa using hs))

theorem m_get (w : World) (p F t : Nat) (hF : F ≤ 256) (o : Option Nat) (V : Nat → Nat) (h : MemA w p o F V t) (at_ : Nat) (hw : at_ < 18446744073709551616) (n : Int) (hn : n ≤ 9223372036854775807) :
    Calls Try.prog 19 #[.pointer (some ⟨p, 0, none⟩), .int .u64 at_, .int .i64 n] w (MemK w p F t o V (.tuple #[.string (gtS F V at_ n), .int .i64 (cdG F at_ n)])) := by
  by_cases h0 : n < 0
  · have e : cdG F at_ n = 1 := by simp [cdG, h0]
    simp only [gtS, e]
    exact keep_same h (mem_get_neg w p at_ n h0)
  · obtain ⟨m, rfl⟩ := Int.eq_ofNat_of_zero_le (show 0 ≤ n by omega)
    by_cases hf : at_ + m ≤ F * 256
    · have e : cdG F at_ (m : Int) = 0 := by simp [cdG, hf]
      simp only [gtS, e, if_true, Int.toNat_natCast]
      exact (mem_get w p F t hF o V h at_ m hf).mono fun _ _ h => h.keep
    · have e : cdG F at_ (m : Int) = 3 := by simp [cdG, hf]
      simp only [gtS, e]
      exact (mem_get_no w p F t hF o V h at_ m hw (by omega) (by omega)).mono fun _ _ h => h.keep

theorem m_put (w : World) (p F t : Nat) (hF : F ≤ 256) (o : Option Nat) (V : Nat → Nat) (h : MemA w p o F V t) (at_ : Nat) (hw : at_ < 18446744073709551616) (s : ByteArray) (hs : s.size ≤ maxLen) :
    Calls Try.prog 60 #[.pointer (some ⟨p, 0, none⟩), .int .u64 at_, .string s] w (MemK w p F t o (ptV F V at_ s) (.int .i64 (cdP F at_ s))) := by
  by_cases hf : at_ + s.size ≤ F * 256
  · have e : cdP F at_ s = 0 := by simp [cdP, hf]
    simp only [ptV, e, if_true]
    exact (mem_put w p F t hF o V h at_ s hf).mono fun _ _ h => h.keep
  · have e : cdP F at_ s = 3 := by simp [cdP, hf]
    simp only [ptV, e]
    exact (mem_put_no w p F t hF o V h at_ hw s hs (by omega)).mono fun _ _ h => h.keep

theorem m_clear (w : World) (p F t : Nat) (hF : F ≤ 256) (o : Option Nat) (V : Nat → Nat) (h : MemA w p o F V t) (f : Int) :
    Calls Try.prog 74 #[.pointer (some ⟨p, 0, none⟩), .int .i64 f] w (MemK w p F t o (clV F V f) (.int .i64 (cdF F f))) := by
  by_cases hf : 0 ≤ f ∧ f < F
  · obtain ⟨m, rfl⟩ := Int.eq_ofNat_of_zero_le hf.1
    have e : cdF F (m : Int) = 0 := by unfold cdF; rw [if_pos hf]
    simp only [clV, e, if_true, Int.toNat_natCast]
    exact (mem_clear w p F t hF o V h m (by omega)).mono fun _ _ h => h.keep
  · have e : cdF F f = 3 := by unfold cdF; rw [if_neg hf]
    simp only [clV, e]
    exact keep_same h (mem_clear_no w p F t o V h f (by omega))

theorem m_copy (w : World) (p F t : Nat) (hF : F ≤ 256) (o : Option Nat) (V : Nat → Nat) (h : MemA w p o F V t) (a b : Int) :
    Calls Try.prog 56 #[.pointer (some ⟨p, 0, none⟩), .int .i64 a, .int .i64 b] w (MemK w p F t o (cpV F V a b) (.int .i64 (cdC F a b))) := by
  by_cases hf : 0 ≤ a ∧ a < F ∧ 0 ≤ b ∧ b < F
  · have e : cdC F a b = 0 := by unfold cdC; rw [if_pos hf]
    obtain ⟨m, rfl⟩ := Int.eq_ofNat_of_zero_le hf.1
    obtain ⟨k, rfl⟩ := Int.eq_ofNat_of_zero_le hf.2.2.1
    simp only [cpV, e, if_true, Int.toNat_natCast]
    exact (mem_copy w p F t hF o V h m k (by omega) (by omega)).mono fun _ _ h => h.keep
  · have e : cdC F a b = 3 := by unfold cdC; rw [if_neg hf]
    simp only [cpV, e]
    exact mem_copy_no w p F t hF o V h a b hf

/-- a memory whose blocks are all new since B -/
def MS (B : Nat) (w : World) (p F : Nat) (V : Nat → Nat) (t : Nat) : Prop := ∃ o, MemA w p o F V t ∧ ∀ k, MemOwn p o k → B ≤ k
/-- a step that changes nothing older than B -/
def StepS (B : Nat) (w : World) (p F : Nat) (V : Nat → Nat) (t : Nat) (v : Value) (e : Ending) (w' : World) : Prop := e = .returned v ∧ MS B w' p F V t ∧ Below B w w'

theorem MemK.ms {B : Nat} {w w' : World} {p F t t0 : Nat} {o : Option Nat} {V V0 : Nat → Nat} {v : Value} {e : Ending} (h : MemK w p F t o V v e w') (h0 : MemA w p o F V0 t0) (hB : ∀ k, MemOwn p o k → B ≤ k) : StepS B w p F V t v e w' := by
  obtain ⟨he, o', hm, hc, hk⟩ := h
  have hp : B ≤ w.heap.size := Nat.le_of_lt (Nat.lt_of_le_of_lt (hB p (.inl rfl)) (h0.lt p (.inl rfl)))
  exact ⟨he, ⟨o', hm, fun k h => (hk k h).elim (hB k) (fun h => by omega)⟩, hc.below hp hB⟩

theorem s_load {B : Nat} {w : World} {p F t : Nat} {V : Nat → Nat} (h : MS B w p F V t) (hF : F ≤ 256) (ht : t < 18446744073709551616) (at_ : Nat) (hw : at_ < 18446744073709551616) (n : Int) :
    Calls Try.prog 37 #[.pointer (some ⟨p, 0, none⟩), .int .u64 at_, .int .i64 n] w (StepS B w p F V (tc F at_ n t) (.tuple #[.int .u64 (ldV F V at_ n : Nat), .int .i64 (cdL F at_ n)])) := by
  obtain ⟨o, hm, hB⟩ := h
  exact (m_load w p F t hF ht o V hm at_ hw n).mono fun _ _ h => h.ms hm hB
theorem s_store {B : Nat} {w : World} {p F t : Nat} {V : Nat → Nat} (h : MS B w p F V t) (hF : F ≤ 256) (ht : t < 18446744073709551616) (at_ : Nat) (hw : at_ < 18446744073709551616) (n : Int) (v : Nat) (hv : v < 18446744073709551616) :
    Calls Try.prog 33 #[.pointer (some ⟨p, 0, none⟩), .int .u64 at_, .int .i64 n, .int .u64 v] w (StepS B w p F (stV F V at_ n v) (tc F at_ n t) (.int .i64 (cdL F at_ n))) := by
  obtain ⟨o, hm, hB⟩ := h
  exact (m_store w p F t hF ht o V hm at_ hw n v hv).mono fun _ _ h => h.ms hm hB
theorem s_get {B : Nat} {w : World} {p F t : Nat} {V : Nat → Nat} (h : MS B w p F V t) (hF : F ≤ 256) (at_ : Nat) (hw : at_ < 18446744073709551616) (n : Int) (hn : n ≤ 9223372036854775807) :
    Calls Try.prog 19 #[.pointer (some ⟨p, 0, none⟩), .int .u64 at_, .int .i64 n] w (StepS B w p F V t (.tuple #[.string (gtS F V at_ n), .int .i64 (cdG F at_ n)])) := by
  obtain ⟨o, hm, hB⟩ := h
  exact (m_get w p F t hF o V hm at_ hw n hn).mono fun _ _ h => h.ms hm hB
theorem s_put {B : Nat} {w : World} {p F t : Nat} {V : Nat → Nat} (h : MS B w p F V t) (hF : F ≤ 256) (at_ : Nat) (hw : at_ < 18446744073709551616) (s : ByteArray) (hs : s.size ≤ maxLen) :
    Calls Try.prog 60 #[.pointer (some ⟨p, 0, none⟩), .int .u64 at_, .string s] w (StepS B w p F (ptV F V at_ s) t (.int .i64 (cdP F at_ s))) := by
  obtain ⟨o, hm, hB⟩ := h
  exact (m_put w p F t hF o V hm at_ hw s hs).mono fun _ _ h => h.ms hm hB
theorem s_clear {B : Nat} {w : World} {p F t : Nat} {V : Nat → Nat} (h : MS B w p F V t) (hF : F ≤ 256) (f : Int) :
    Calls Try.prog 74 #[.pointer (some ⟨p, 0, none⟩), .int .i64 f] w (StepS B w p F (clV F V f) t (.int .i64 (cdF F f))) := by
  obtain ⟨o, hm, hB⟩ := h
  exact (m_clear w p F t hF o V hm f).mono fun _ _ h => h.ms hm hB
theorem s_copy {B : Nat} {w : World} {p F t : Nat} {V : Nat → Nat} (h : MS B w p F V t) (hF : F ≤ 256) (a b : Int) :
    Calls Try.prog 56 #[.pointer (some ⟨p, 0, none⟩), .int .i64 a, .int .i64 b] w (StepS B w p F (cpV F V a b) t (.int .i64 (cdC F a b))) := by
  obtain ⟨o, hm, hB⟩ := h
  exact (m_copy w p F t hF o V hm a b).mono fun _ _ h => h.ms hm hB
theorem s_frames {B : Nat} {w : World} {p F t : Nat} {V : Nat → Nat} (h : MS B w p F V t) :
    Calls Try.prog 35 #[.pointer (some ⟨p, 0, none⟩)] w fun e w' => e = .returned (.int .i64 F) ∧ w = w' := by
  obtain ⟨o, hm, hB⟩ := h
  exact phys_frames w p F t o V hm
/-- New -/
theorem s_new (B : Nat) (w : World) (hB : B ≤ w.heap.size) (F : Int) (h0 : 1 ≤ F) (h1 : F ≤ 256) :
    Calls Try.prog 31 #[.int .i64 F] w (StepS B w w.heap.size F.toNat (fun _ => 0) 0 (.tuple #[.pointer (some ⟨w.heap.size, 0, none⟩), .int .i64 0])) :=
  (phys_new w F h0 h1).mono fun _ _ ⟨he, hm, hc, _⟩ => ⟨he, ⟨none, .un hm, fun k hk => by rcases hk with rfl | hk; exact hB; exact absurd hk (by simp)⟩, hc.below hB (fun _ h => h.elim)⟩
end Go.Proofs.Ytodjmfmenfncdaa
