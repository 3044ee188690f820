/-
  A program's file, read: the closures.
-/
import Derived.Test.YtijooajhjcfneaaQPgEnc2
namespace Go.Proofs.Ytijooajhjcfneaa
open Go.RowKit

theorem run_min2 (W : World) (n m k : Nat) (hk : k = min n m) (ts : Array TypeId) (t : TypeId) : (Builtin.min_ ts t #[.int .i64 (n : Nat), .int .i64 (m : Nat)]).run Try.prog W = .ok (.int .i64 (k : Nat)) W := by
  have e : (Builtin.min_ ts t #[.int .i64 (n : Nat), .int .i64 (m : Nat)]).run Try.prog W = .ok (.int .i64 (if (m : Int) < (n : Int) then (m : Int) else (n : Int))) W := by simp [Builtin.min_, Builtin.min2]
  rw [e]
  by_cases c : (m : Int) < (n : Int)
  · rw [if_pos c, show k = m by omega]
  · rw [if_neg c, show k = n by omega]
/-- the function that cuts -/
def cutF (c : Nat) : Value := .func (.func 25) #[] #[.pointer (some ⟨c, 0, none⟩)]
set_option maxRecDepth 100000 in
theorem p_cut (w : World) (c : Nat) (r : ByteArray) (hb : Blk w c #[.string r] 9) (n : Nat) (hr : r.size ≤ 9223372036854775807) :
    Calls Try.prog 25 #[.int .i64 n, .pointer (some ⟨c, 0, none⟩)] w fun e w' => e = .returned (.string (r.extract 0 (min n r.size))) ∧ Blk w' c #[.string (r.extract (min n r.size) r.size)] 9 ∧ Chg (fun k => k = c) w w' := by
  obtain ⟨k, hk⟩ : ∃ k, k = min n r.size := ⟨_, rfl⟩
  rw [← hk]
  have c0 := hb.cellv 0 _ rfl
  have f0 := hb.free 0
  have hmin := fun W => run_min2 W n r.size k hk
  have y1 : (k : Int) ≤ (r.size : Int) := by omega
  have y0 : (0 : Int) ≤ (k : Int) := Int.natCast_nonneg k
  have NB := Lib.hid (show Blk (w.setCell ⟨c, 0, none⟩ (.string (r.extract k r.size))) c #[.string (r.extract k r.size)] 9 ∧ Chg (fun k => k = c) w (w.setCell ⟨c, 0, none⟩ (.string (r.extract k r.size))) from ⟨by simpa using hb.set 0 (.string (r.extract k r.size)), (Chg.refl _ w).setCell _ _ (.inl rfl)⟩)
  clear hk hb
  go_enter Try.func25, Try.ntmps25
  go_wp2_with fail
  go_ret
  exact ⟨rfl, NB.out.1, NB.out.2⟩
theorem wOf_lt32 (s : ByteArray) (h : s.size ≤ 4) : wOf s < 4294967296 := by
  have h1 := wOfN_lt s (min s.size 8)
  have h2 : min s.size 8 ≤ 4 := by omega
  have h3 : 256 ^ (min s.size 8) ≤ 256 ^ 4 := Nat.pow_le_pow_right (by decide) h2
  have h4 : (256 : Nat) ^ 4 = 4294967296 := by decide
  unfold wOf
  omega
set_option maxRecDepth 100000 in
theorem p_number (w : World) (c f : Nat) (r : ByteArray) (hb : Blk w c #[.string r] 9) (T : TypeId) (hf : Blk w f #[cutF c] T) (hr : r.size ≤ 9223372036854775807) :
    Calls Try.prog 26 #[.pointer (some ⟨f, 0, none⟩)] w fun e w' => e = .returned (.int .i64 (wOf (r.extract 0 (min 4 r.size)) : Nat)) ∧ Blk w' c #[.string (r.extract (min 4 r.size) r.size)] 9 ∧ Chg (fun k => k = c) w w' := by
  have c0 := hf.cellv 0 _ rfl
  have KC := p_cut w c r hb 4 hr
  rw [show ((4 : Nat) : Int) = 4 from rfl] at KC
  have hz : (r.extract 0 (min 4 r.size)).size ≤ 4 := by rw [ByteArray.size_extract]; omega
  generalize r.extract 0 (min 4 r.size) = t at *
  have KO := fun W => word_of W t (by unfold maxLen; omega)
  have hv := wOf_lt32 t hz
  generalize wOf t = v at *
  have hw : IntKind.i64.wrap (v : Int) = (v : Int) := i64_wrap_eq rfl (by omega)
  have KC := Lib.hid KC; have KO := Lib.hid KO
  unfold cutF at c0
  clear hb hf hz hv
  go_enter Try.func26, Try.ntmps26
  go_wp2_with fail
  refine KC.out.mono ?_
  rintro e w1 ⟨rfl, b1, c1⟩
  have B1 := Lib.hid (And.intro b1 c1); clear b1 c1
  go_wp2_with fail
  refine (KO.out w1).mono ?_
  rintro e w2 ⟨rfl, rfl⟩
  go_wp2_with fail
  go_ret
  exact ⟨rfl, B1.out⟩
end Go.Proofs.Ytijooajhjcfneaa
