/-
  The document's memory: New, there, sized, Get, Load by their contracts.
-/
import Derived.Test.YtodjmfmenfncdaaPhActs
import Derived.Test.YtodjmfmenfncdaaRefBytes
namespace Go.Proofs.Ytodjmfmenfncdaa
open Go.RowKit

abbrev RmT : TypeId := 53
/-- the document's memory of F frames -/
structure RM (w : World) (r g F : Nat) (V : Nat → Nat) (t : Nat) : Prop where
  blk : Blk w r #[memS g F, .int .u64 t] RmT
  row : Row w g (F * 256) V
  ne : r ≠ g
  small : ∀ i, V i < 256
theorem RM.chg {S : Nat → Prop} {w w' : World} {r g F t : Nat} {V : Nat → Nat} (h : RM w r g F V t) (c : Chg S w w') (hn : ¬ S r) (hm : ¬ S g) : RM w' r g F V t :=
  ⟨c.blk h.blk hn, h.row.chg c hm, h.ne, h.small⟩
theorem RM.touched {w : World} {r g F t t' : Nat} {V : Nat → Nat} (h : RM w r g F V t) : RM (w.setCell ⟨r, 1, none⟩ (.int .u64 t')) r g F V t' ∧ Chg (fun k => k = r) w (w.setCell ⟨r, 1, none⟩ (.int .u64 t')) := by
  have c : Chg (fun k => k = r) w (w.setCell ⟨r, 1, none⟩ (.int .u64 t')) := (Chg.refl _ _).setCell _ _ (.inl rfl)
  exact ⟨⟨h.blk.set 1 _, h.row.chg c (fun e => h.ne e.symm), h.ne, h.small⟩, c⟩
/-- what a call on it leaves -/
def RmK (w : World) (r g F t : Nat) (V : Nat → Nat) (v : Value) (e : Ending) (w' : World) : Prop := e = .returned v ∧ RM w' r g F V t ∧ Chg (fun k => k = r ∨ k = g) w w'

theorem row_string (w : World) (g N : Nat) (V : Nat → Nat) (h : Row w g N V) (off at_ n cap : Nat) (ho : 0 < n → off = at_) (hfit : at_ + n ≤ N) :
    (convert 51 9 (.slice (some ⟨g, off, none⟩) n cap)).run Try.prog w = .ok (.string (memStr V at_ n)) w := by
  by_cases h0 : n = 0
  · subst h0
    rw [run_convert_bytes_zero w _ ByT Try.underlying51 Try.underlying5 _ _ 9 Try.underlying9]
    rfl
  · obtain rfl := ho (by omega)
    obtain ⟨cs, hb, hs, hv⟩ := h
    refine run_convert_bytes_arg w 51 ByT Try.underlying51 Try.underlying5 g off n cap _ (by simp) (fun i hi => ?_) 9 Try.underlying9
    rw [hb.cell, hv _ (by omega)]
    simp [List.getD, hi]

theorem ref_new (w : World) (F : Nat) (hF : F ≤ 256) :
    Calls Try.prog 32 #[.int .i64 F] w fun e w' => e = .returned (.pointer (some ⟨w.heap.size + 1, 0, none⟩)) ∧ RM w' (w.heap.size + 1) w.heap.size F (fun _ => 0) 0 ∧ Chg (fun _ => False) w w' ∧ w'.heap.size = w.heap.size + 2 := by
  have hw : wrap64 ((F : Int) * 256) = (F : Int) * 256 := by unfold wrap64; omega
  have hmk := fun W => make_frames W F hF
  go_enter Try.func32, Try.ntmps32
  go_wp2_with fail
  go_ret
  have e : (w.alloc (.cells (zeros (F * 256)) ByT)).heap.size = w.heap.size + 1 := by simp
  refine ⟨by simp, ⟨?_, ?_, by omega, fun _ => by omega⟩, ((Chg.refl _ w).alloc _).alloc _, by simp⟩
  · rw [← e]; exact Blk.new _ _ _
  · exact (row_zeros w (F * 256)).chg ((Chg.refl (fun _ => False) _).alloc _) (fun h => h)

theorem ref_sized (w : World) (n : Int) :
    Calls Try.prog 67 #[.int .i64 n] w fun e w' => e = .returned (.bool (wSized n)) ∧ w = w' := by
  obtain ⟨c, hc⟩ : ∃ c, c = wSized n := ⟨_, rfl⟩
  rw [← hc]
  have HC := Lib.hid hc; clear hc
  go_enter Try.func67, Try.ntmps67
  go_wp2_with fail
  all_goals
    go_ret
    have hc := HC.out
    exact ⟨ret_bool (by rw [hc]; unfold wSized; first | (simp_all; done) | rfl), rfl⟩

theorem ref_there (w : World) (r g F t : Nat) (hF : F ≤ 256) (V : Nat → Nat) (h : RM w r g F V t) (at_ n : Nat) (hw : at_ < 18446744073709551616) (hn : n ≤ 9223372036854775807) :
    Calls Try.prog 68 #[.pointer (some ⟨r, 0, none⟩), .int .u64 at_, .int .i64 n] w fun e w' => e = .returned (.bool (decide (at_ + n ≤ F * 256))) ∧ w = w' := by
  have c0 : w.cell? ⟨r, 0, none⟩ = some (.slice (some ⟨g, 0, none⟩) (F * 256) (F * 256)) := h.blk.cellv 0 _ rfl
  have q0 : IntKind.u64.wrap ((F : Int) * 256) = (F : Int) * 256 := by rw [u64_wrap]; omega
  have q1 : IntKind.u64.wrap (n : Int) = (n : Int) := by rw [u64_wrap]; omega
  clear h
  by_cases h1 : at_ ≤ F * 256
  · have d1 : decide ((at_ : Int) ≤ (F : Int) * 256) = true := decide_eq_true (by omega)
    have q2 : IntKind.u64.wrap ((F : Int) * 256 - (at_ : Int)) = (F : Int) * 256 - (at_ : Int) := by rw [u64_wrap]; omega
    by_cases h2 : at_ + n ≤ F * 256
    · have d2 : decide ((n : Int) ≤ (F : Int) * 256 - (at_ : Int)) = true := decide_eq_true (by omega)
      have HH := Lib.hid h2; clear h2
      go_enter Try.func68, Try.ntmps68
      go_wp2_with fail
      go_ret
      exact ⟨ret_bool (by rw [decide_eq_true HH.out]), rfl⟩
    · have d2 : decide ((n : Int) ≤ (F : Int) * 256 - (at_ : Int)) = false := decide_eq_false (by omega)
      have HH := Lib.hid h2; clear h2
      go_enter Try.func68, Try.ntmps68
      go_wp2_with fail
      go_ret
      exact ⟨ret_bool (by rw [decide_eq_false HH.out]), rfl⟩
  · have d1 : decide ((at_ : Int) ≤ (F : Int) * 256) = false := decide_eq_false (by omega)
    have HH := Lib.hid (show ¬ at_ + n ≤ F * 256 by omega)
    go_enter Try.func68, Try.ntmps68
    go_wp2_with fail
    go_ret
    exact ⟨ret_bool (by rw [decide_eq_false HH.out]), rfl⟩

end Go.Proofs.Ytodjmfmenfncdaa
