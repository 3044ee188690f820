/-
  The statements of layer 15: the document's examples hold.
-/
import Derived.Test.YthlhdgbpfdaodaaLock6
namespace Go.Proofs.Ythlhdgbpfdaodaa
open Go.RowKit Go.Maps

/-- a lock that was made since w0, and nothing older has changed -/
def On (w0 : World) (b wide next passed : Nat) (bk : Nat → Bool) (w : World) : Prop :=
  ∃ fp, LkAt w b wide next passed bk fp ∧ Chg (fun _ => False) w0 w ∧ ∀ k, fp k → w0.heap.size ≤ k

theorem On.step {w0 w w' : World} {b wide n' p' : Nat} {bk' : Nat → Bool} {fp : Nat → Prop} (h1 : Chg (fun _ => False) w0 w) (h2 : ∀ k, fp k → w0.heap.size ≤ k)
    (s : LkStep w b wide fp n' p' bk' w') : On w0 b wide n' p' bk' w' := by
  obtain ⟨fp', hL, hC, hN⟩ := s
  have := h1.size
  exact ⟨fp', hL, h1.trans' hC (fun i hi => .inr (h2 i hi)), fun k hk => by rcases hN k hk with h | h; exact h2 k h; omega⟩

theorem On.chg {w0 w : World} {b wide next passed : Nat} {bk : Nat → Bool} (h : On w0 b wide next passed bk w) : Chg (fun _ => False) w0 w := by
  obtain ⟨_, _, h, _⟩ := h
  exact h

theorem on_new (w : World) (wide : Nat) (h1 : 1 ≤ wide) (h2 : wide ≤ 64) :
    Calls Try.prog 7 #[.int .i64 wide] w fun e w' => e = .returned (.tuple #[.pointer (some ⟨w.heap.size, 0, none⟩), .int .i64 0]) ∧ On w w.heap.size wide 0 0 (fun _ => false) w' :=
  (lk_new w wide h1 h2).mono fun _ _ ⟨he, hs⟩ => ⟨he, On.step (Chg.refl _ _) (fun _ h => h.elim) hs⟩

theorem on_ask {w0 w : World} {b wide next passed : Nat} {bk : Nat → Bool} (h : On w0 b wide next passed bk w) (hb : next < 4611686018427387904) :
    Calls Try.prog 9 #[.pointer (some ⟨b, 0, none⟩)] w fun e w' => e = .returned (.tuple #[.int .u64 next, .int .i64 0]) ∧ On w0 b wide (next + 1) passed bk w' := by
  obtain ⟨fp, hL, hC, hN⟩ := h
  exact (lk_ask w b wide next passed bk fp hL hb).mono fun _ _ ⟨he, hs⟩ => ⟨he, On.step hC hN hs⟩

theorem on_has {w0 w : World} {b wide next passed : Nat} {bk : Nat → Bool} (h : On w0 b wide next passed bk w) (t : Nat) (hb : next ≤ 4611686018427387904) (hq : passed + wide ≤ 4611686018427387904) :
    Calls Try.prog 13 #[.pointer (some ⟨b, 0, none⟩), .int .u64 t] w fun e w' => e = .returned (.bool (lkHas wide next passed bk t)) ∧ On w0 b wide next passed bk w' := by
  obtain ⟨fp, hL, hC, hN⟩ := h
  exact (lk_has w b wide next passed t bk fp hL hb hq).mono fun _ _ ⟨he, hs⟩ => ⟨he, On.step hC hN hs⟩

theorem on_pass_no {w0 w : World} {b wide next passed : Nat} {bk : Nat → Bool} (h : On w0 b wide next passed bk w) (t : Nat) (hb : next ≤ 4611686018427387904) (hq : passed + wide ≤ 4611686018427387904)
    (hr : lkHas wide next passed bk t = false) :
    Calls Try.prog 11 #[.pointer (some ⟨b, 0, none⟩), .int .u64 t] w fun e w' => e = .returned (.int .i64 1) ∧ On w0 b wide next passed bk w' := by
  obtain ⟨fp, hL, hC, hN⟩ := h
  exact (lk_pass_no w b wide next passed t bk fp hL hb hq hr).mono fun _ _ ⟨he, hs⟩ => ⟨he, On.step hC hN hs⟩

theorem u64_wf (t : Nat) (h : t < 18446744073709551616) : (Lit.int .u64 (t : Int)).wf = true := by simp [Lit.wf, IntKind.min, IntKind.max, IntKind.signed, IntKind.bits]; omega

theorem on_pass_yes {w0 w : World} {b wide next passed : Nat} {bk : Nat → Bool} (h : On w0 b wide next passed bk w) (t : Nat) (hb : next ≤ 4611686018427387904) (hq : passed + wide ≤ 4611686018427387904)
    (hr : lkHas wide next passed bk t = true) :
    Calls Try.prog 11 #[.pointer (some ⟨b, 0, none⟩), .int .u64 t] w fun e w' => e = .returned (.int .i64 0) ∧ On w0 b wide next (passed + 1) (bkSet bk t) w' := by
  obtain ⟨fp, hL, hC, hN⟩ := h
  have ht : t < next := by simp [lkHas] at hr; omega
  exact (lk_pass_yes w b wide next passed t bk fp hL hb hq (u64_wf t (by omega)) hr).mono fun _ _ ⟨he, hs⟩ => ⟨he, On.step hC hN hs⟩

theorem On.drewN {w0 w : World} {b wide next passed : Nat} {bk : Nat → Bool} (h : On w0 b wide next passed bk w) (n : Nat) : On w0 b wide next passed bk (w.drewN n) := by
  obtain ⟨fp, hL, hC, hN⟩ := h
  exact ⟨fp, hL.chg ((Chg.refl (fun _ => False) w).drewN n) (fun _ _ h => h), hC.drewN n, hN⟩
theorem On.drew {w0 w : World} {b wide next passed : Nat} {bk : Nat → Bool} (h : On w0 b wide next passed bk w) : On w0 b wide next passed bk w.drew := by
  obtain ⟨fp, hL, hC, hN⟩ := h
  exact ⟨fp, hL.chg ((Chg.refl (fun _ => False) w).drew) (fun _ _ h => h), hC.drew, hN⟩

theorem on_waiting {w0 w : World} {b wide next passed : Nat} {bk : Nat → Bool} (h : On w0 b wide next passed bk w) (hp : passed ≤ next) (hb : next ≤ 4611686018427387904) :
    Calls Try.prog 15 #[.pointer (some ⟨b, 0, none⟩)] w fun e w' => e = .returned (.int .u64 ((next : Int) - passed)) ∧ On w0 b wide next passed bk w' := by
  have H := h
  obtain ⟨fp, hL, hC, hN⟩ := h
  exact (lk_waiting w b wide next passed bk fp hL hp hb).mono fun _ _ ⟨he, n, hs⟩ => ⟨he, hs ▸ H.drewN n⟩

theorem on_let {w0 w : World} {b wide next passed : Nat} {bk : Nat → Bool} (h : On w0 b wide next passed bk w) (hq : passed + wide ≤ 4611686018427387904) :
    Calls Try.prog 17 #[.pointer (some ⟨b, 0, none⟩)] w fun e w' => e = .returned (.int .u64 (min (next : Int) ((passed : Int) + wide))) ∧ On w0 b wide next passed bk w' := by
  have H := h
  obtain ⟨fp, hL, hC, hN⟩ := h
  exact (lk_let w b wide next passed bk fp hL hq).mono fun _ _ ⟨he, hs⟩ => ⟨he, hs ▸ H.drew⟩

set_option maxHeartbeats 1000000 in
theorem shown_true (w : World) :
    Calls Try.prog 6 #[] w fun e w' => e = .returned (.bool true) ∧ Chg (fun _ => False) w w' := by
  go_enter Try.func6, Try.ntmps6
  go_wp2_with fail
  refine (on_new w 1 (by omega) (by omega)).mono ?_
  rintro e w1 ⟨rfl, h1⟩
  have H1 := Lib.hid h1; clear h1
  go_wp2_with fail
  refine (on_ask H1.out (by omega)).mono ?_
  rintro e w2 ⟨rfl, h2⟩
  have H2 := Lib.hid h2; clear h2 H1
  go_wp2_with fail
  refine (on_ask H2.out (by omega)).mono ?_
  rintro e w3 ⟨rfl, h3⟩
  have H3 := Lib.hid h3; clear h3 H2
  go_wp2_with fail
  refine (on_has H3.out 0 (by omega) (by omega)).mono ?_
  rw [show lkHas 1 (0 + 1 + 1) 0 (fun _ => false) 0 = true from rfl]
  rintro e w4 ⟨rfl, h4⟩
  have H4 := Lib.hid h4; clear h4 H3
  go_wp2_with fail
  refine (on_has H4.out 1 (by omega) (by omega)).mono ?_
  rw [show lkHas 1 (0 + 1 + 1) 0 (fun _ => false) 1 = false from rfl]
  rintro e w5 ⟨rfl, h5⟩
  have H5 := Lib.hid h5; clear h5 H4
  go_wp2_with fail
  refine (on_pass_no H5.out 1 (by omega) (by omega) rfl).mono ?_
  rintro e w6 ⟨rfl, h6⟩
  have H6 := Lib.hid h6; clear h6 H5
  go_wp2_with fail
  refine (on_pass_yes H6.out 0 (by omega) (by omega) rfl).mono ?_
  rintro e w7 ⟨rfl, h7⟩
  have H7 := Lib.hid h7; clear h7 H6
  go_wp2_with fail
  refine (on_has H7.out 1 (by omega) (by omega)).mono ?_
  rw [show lkHas 1 (0 + 1 + 1) (0 + 1) (bkSet (fun _ => false) 0) 1 = true from rfl]
  rintro e w8 ⟨rfl, h8⟩
  have H8 := Lib.hid h8; clear h8 H7
  go_wp2_with fail
  refine (on_waiting H8.out (by omega) (by omega)).mono ?_
  rintro e w9 ⟨rfl, h9⟩
  have H9 := Lib.hid h9; clear h9 H8
  go_wp2_with fail
  refine (on_let H9.out (by omega)).mono ?_
  rintro e w10 ⟨rfl, h10⟩
  have H10 := Lib.hid h10; clear h10 H9
  go_wp2_with fail
  go_ret
  exact ⟨rfl, H10.out.chg⟩
end Go.Proofs.Ythlhdgbpfdaodaa
