/-
  The refusals of Load and Store, Touched, frame, Clear by their contracts.
-/
import Derived.Test.YtodjmfmenfncdaaMem5
namespace Go.Proofs.Ytodjmfmenfncdaa
open Go.RowKit

theorem mem_load_arg (w : World) (p at_ : Nat) (n : Int) (hn : wSized n = false) :
    Calls Try.prog 37 #[.pointer (some ⟨p, 0, none⟩), .int .u64 at_, .int .i64 n] w fun e w' => e = .returned (.tuple #[.int .u64 0, .int .i64 1]) ∧ w = w' := by
  have HZ := phys_sized w n
  rw [hn] at HZ
  have HZ' := Lib.hid HZ; clear HZ hn
  go_enter Try.func37, Try.ntmps37
  go_wp2_with fail
  refine HZ'.out.mono ?_
  rintro e w' ⟨rfl, rfl⟩
  go_wp2_with fail
  go_ret2
  exact ⟨rfl, rfl⟩

theorem mem_store_arg (w : World) (p at_ v : Nat) (n : Int) (hn : wSized n = false) :
    Calls Try.prog 33 #[.pointer (some ⟨p, 0, none⟩), .int .u64 at_, .int .i64 n, .int .u64 v] w fun e w' => e = .returned (.int .i64 1) ∧ w = w' := by
  have HZ := phys_sized w n
  rw [hn] at HZ
  have HZ' := Lib.hid HZ; clear HZ hn
  go_enter Try.func33, Try.ntmps33
  go_wp2_with fail
  refine HZ'.out.mono ?_
  rintro e w' ⟨rfl, rfl⟩
  go_wp2_with fail
  go_ret
  exact ⟨rfl, rfl⟩

theorem mem_load_no (w : World) (p F t : Nat) (hF : F ≤ 256) (o : Option Nat) (V : Nat → Nat) (h : MemA w p o F V t) (at_ n : Nat) (hw : at_ < 18446744073709551616) (hn : wSized n = true) (hfit : F * 256 < at_ + n) :
    Calls Try.prog 37 #[.pointer (some ⟨p, 0, none⟩), .int .u64 at_, .int .i64 n] w (MemPost w p F t o V (.tuple #[.int .u64 0, .int .i64 3])) := by
  have hle := wSized_le hn
  have HS := Lib.hid (mem_span_no w p F t hF o V h at_ n hw (by omega))
  have HZ := phys_sized w n
  rw [hn] at HZ
  have HZ' := Lib.hid HZ
  clear h HZ hle
  go_enter Try.func37, Try.ntmps37
  go_wp2_with fail
  refine HZ'.out.mono ?_
  rintro e w' ⟨rfl, rfl⟩
  go_wp2_with fail
  refine HS.out.mono ?_
  rintro e w' ⟨g, rfl, hm⟩
  have HM := Lib.hid hm; clear hm
  go_wp2_with fail
  go_ret2
  exact ⟨g, rfl, HM.out.1, chg_own HM.out.2.1, HM.out.2.2⟩

theorem mem_store_no (w : World) (p F t : Nat) (hF : F ≤ 256) (o : Option Nat) (V : Nat → Nat) (h : MemA w p o F V t) (at_ n v : Nat) (hw : at_ < 18446744073709551616) (hn : wSized n = true) (hfit : F * 256 < at_ + n) :
    Calls Try.prog 33 #[.pointer (some ⟨p, 0, none⟩), .int .u64 at_, .int .i64 n, .int .u64 v] w (MemPost w p F t o V (.int .i64 3)) := by
  have hle := wSized_le hn
  have HS := Lib.hid (mem_span_no w p F t hF o V h at_ n hw (by omega))
  have HZ := phys_sized w n
  rw [hn] at HZ
  have HZ' := Lib.hid HZ
  clear h HZ hle
  go_enter Try.func33, Try.ntmps33
  go_wp2_with fail
  refine HZ'.out.mono ?_
  rintro e w' ⟨rfl, rfl⟩
  go_wp2_with fail
  refine HS.out.mono ?_
  rintro e w' ⟨g, rfl, hm⟩
  have HM := Lib.hid hm; clear hm
  go_wp2_with fail
  go_ret
  exact ⟨g, rfl, HM.out.1, chg_own HM.out.2.1, HM.out.2.2⟩

theorem MemA.cell5 {w : World} {p F t : Nat} {o : Option Nat} {V : Nat → Nat} (h : MemA w p o F V t) : w.cell? ⟨p, 5, none⟩ = some (.int .u64 t) := by
  cases h with
  | un h => exact h.blk.cellv 5 _ rfl
  | made h => exact h.blk.cellv 5 _ rfl

theorem mem_frame (w : World) (p F t : Nat) (hF : F ≤ 256) (o : Option Nat) (V : Nat → Nat) (h : MemA w p o F V t) (f : Nat) (hf : f < F) :
    Calls Try.prog 77 #[.pointer (some ⟨p, 0, none⟩), .int .i64 f] w (Span w p F t o V (f * 256) 256) := by
  have HS := Lib.hid (mem_span w p F t hF o V h (f * 256) 256 (by omega))
  have c0 := h.cell0
  clear h
  have t1 : decide ((F : Int) ≤ (f : Int)) = false := decide_eq_false (by omega)
  have t4 : ¬ F ≤ f := by omega
  have t5 : decide (F ≤ f) = false := decide_eq_false (by omega)
  have t6 : decide ((f : Int) < 0) = false := decide_eq_false (by omega)
  have t2 : IntKind.u64.wrap ((f : Int)) = (f : Int) := by simp [IntKind.wrap, IntKind.bits, IntKind.signed]; omega
  have t3 : IntKind.u64.wrap ((f : Int) * 256) = ((f * 256 : Nat) : Int) := by simp [IntKind.wrap, IntKind.bits, IntKind.signed]; omega
  generalize f * 256 = a at *
  have HF := Lib.hid hf; clear hf
  go_enter Try.func77, Try.ntmps77
  go_wp2_with fail
  refine HS.out.mono ?_
  rintro e w' ⟨g, off, cap, rfl, hm⟩
  have HM := Lib.hid hm; clear hm
  go_wp2_with fail
  go_ret2
  exact ⟨g, off, cap, rfl, HM.out⟩

theorem mem_frame_no (w : World) (p F t : Nat) (o : Option Nat) (V : Nat → Nat) (h : MemA w p o F V t) (f : Int) (hf : f < 0 ∨ (F : Int) ≤ f) :
    Calls Try.prog 77 #[.pointer (some ⟨p, 0, none⟩), .int .i64 f] w fun e w' => e = .returned (.tuple #[.slice none 0 0, .bool false]) ∧ w = w' := by
  have c0 := h.cell0
  clear h
  by_cases h0 : f < 0
  · clear hf
    go_enter Try.func77, Try.ntmps77
    go_wp2_with fail
    go_ret2
    exact ⟨rfl, rfl⟩
  · have t1 : decide ((F : Int) ≤ f) = true := decide_eq_true (by omega)
    clear hf
    go_enter Try.func77, Try.ntmps77
    go_wp2_with fail
    go_ret2
    exact ⟨rfl, rfl⟩

theorem Row.congr {w : World} {g n : Nat} {V V' : Nat → Nat} (h : Row w g n V) (e : ∀ i, i < n → V i = V' i) : Row w g n V' := by
  obtain ⟨cs, h1, h2, h3⟩ := h
  exact ⟨cs, h1, h2, fun i hi => by rw [h3 i hi, e i hi]⟩
theorem Row.set {w : World} {g n : Nat} {V : Nat → Nat} (h : Row w g n V) (i x : Nat) (hi : i < n) : Row (w.setCell ⟨g, i, none⟩ (.int .u8 x)) g n (fun j => if j = i then x else V j) := by
  obtain ⟨cs, h1, h2, h3⟩ := h
  refine ⟨_, h1.set i _, by simp [h2], fun j hj => ?_⟩
  rw [Array.getElem?_setIfInBounds]
  by_cases e : i = j
  · subst e
    simp [h2, hi]
  · have e2 : ¬ j = i := fun h => e h.symm
    simp [e, e2, h3 j hj]

theorem row_clear (g N : Nat) : ∀ (k o : Nat) (w : World) (V : Nat → Nat), Row w g N V → o + k ≤ N → Row (w.setCells g o (List.replicate k (.int .u8 0))) g N (putV V o k (fun _ => 0)) ∧ Chg (fun j => j = g) w (w.setCells g o (List.replicate k (.int .u8 0)))
  | 0, o, w, V, h, _ => by
    rw [putV_none]
    exact ⟨h, Chg.refl _ _⟩
  | k + 1, o, w, V, h, hfit => by
    have h1 := h.set o 0 (by omega)
    have ih := row_clear g N k (o + 1) _ _ h1 (by omega)
    refine ⟨ih.1.congr fun i hi => ?_, ((Chg.refl (fun j => j = g) w).setCell ⟨g, o, none⟩ (.int .u8 0) (.inl rfl)).trans ih.2⟩
    unfold putV
    by_cases e1 : i = o
    · subst e1
      rw [if_neg (by omega), if_pos (by omega)]
      simp
    · by_cases e2 : o + 1 ≤ i ∧ i < o + 1 + k
      · rw [if_pos e2, if_pos (by omega)]
      · rw [if_neg e2, if_neg (by omega)]
        simp [e1]
end Go.Proofs.Ytodjmfmenfncdaa
