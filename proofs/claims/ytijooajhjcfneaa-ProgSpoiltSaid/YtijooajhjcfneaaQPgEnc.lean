/-
  A program's size and its file, as the program writes it.
-/
import Derived.Test.YtijooajhjcfneaaQPgMay
import Derived.Test.YtijooajhjcfneaaQPgRep
import Derived.Deep.RegionHeld3
import Derived.BigQuiet
namespace Go.Proofs.Ytijooajhjcfneaa
open Go.RowKit

theorem may_nums {x : Prg} (h : x.may = true) : 4 ≤ x.text.size ∧ x.text.size ≤ 2048 ∧ x.text.size % 4 = 0 ∧ 0 ≤ x.entry ∧ x.entry < (x.text.size : Int) ∧ x.entry % 4 = 0 ∧ x.data.size ≤ 1024 ∧ 0 ≤ x.bss ∧ x.bss ≤ 4096 ∧ 32 + x.text.size + x.data.size ≤ 2368 := of_decide_eq_true h
/-- so many pages -/
def pagesN (n : Nat) : Nat := (n + 255) / 256
theorem p_paged (w : World) (n : Nat) (h : n ≤ 100000) : Calls Try.prog 29 #[.int .i64 n] w fun e w' => e = .returned (.int .i64 (pagesN n : Nat)) ∧ w = w' := by
  have w1 : wrap64 ((n : Int) + 256) = (n : Int) + 256 := by unfold wrap64; omega
  have w2 : wrap64 ((n : Int) + 256 - 1) = (n : Int) + 255 := by unfold wrap64; omega
  obtain ⟨d, hd⟩ : ∃ d, d = pagesN n := ⟨_, rfl⟩
  have q2 : ((n : Int) + 256 - 1) / 256 = (d : Int) := by rw [hd]; unfold pagesN; omega
  have hd2 : d ≤ 1000 := by rw [hd]; unfold pagesN; omega
  have w3 : wrap64 (d : Int) = (d : Int) := by unfold wrap64; omega
  rw [← hd]
  clear hd
  go_enter Try.func29, Try.ntmps29
  go_wp2_with fail
  go_ret
  exact ⟨congrArg (fun y : Int => Ending.returned (.int .i64 y)) q2, rfl⟩
def sizeV2 (x : Prg) : Value := if x.may = true then .tuple #[.int .i64 (pagesN x.text.size : Nat), .int .i64 (pagesN (x.data.size + x.bss.toNat) : Nat)] else .tuple #[.int .i64 0, .int .i64 0]
set_option maxRecDepth 100000 in
set_option maxHeartbeats 1600000 in
theorem p_size (w : World) (x : Prg) (h : x.Small) :
    Calls Try.prog 13 #[x.val] w fun r w' => r = .returned (sizeV2 x) ∧ Chg (fun _ => False) w w' := by
  have KM := Lib.hid (fun W => p_may W x h)
  cases hm : x.may with
  | false =>
    rw [hm] at KM
    have e : sizeV2 x = .tuple #[.int .i64 0, .int .i64 0] := by unfold sizeV2; rw [hm]; rfl
    rw [e]
    have C0 := Lib.hid ((Chg.refl (fun _ => False) w).alloc (.cells #[.int .i64 x.entry, .string x.text, .string x.data, .int .i64 x.bss] 23))
    unfold Prg.val at *
    go_enter Try.func13, Try.ntmps13
    go_wp2_with fail
    refine (KM.out _).mono ?_
    rintro e w1 ⟨rfl, c1⟩
    have C1 := Lib.hid (C0.out.trans c1); clear c1
    go_wp2_with fail
    go_ret2
    exact ⟨rfl, C1.out⟩
  | true =>
    rw [hm] at KM
    have e : sizeV2 x = .tuple #[.int .i64 (pagesN x.text.size : Nat), .int .i64 (pagesN (x.data.size + x.bss.toNat) : Nat)] := by unfold sizeV2; rw [if_pos hm]
    rw [e]
    obtain ⟨m1, m2, m3, m4, m5, m6, m7, m8, m9, m10⟩ := may_nums hm
    obtain ⟨en, text, data, bs⟩ := x
    obtain ⟨b, rfl⟩ := Int.eq_ofNat_of_zero_le m8
    have m9' : b ≤ 4096 := by have : ((b : Nat) : Int) ≤ 4096 := m9; omega
    simp only [Int.toNat_natCast]
    have C0 := Lib.hid ((Chg.refl (fun _ => False) w).alloc (.cells #[.int .i64 en, .string text, .string data, .int .i64 (b : Int)] 23))
    have hB := Blk.new w #[.int .i64 en, .string text, .string data, .int .i64 (b : Int)] 23
    unfold Prg.val at *
    simp only at *
    have HB := Lib.hid hB
    clear hB
    generalize hn : text.size = n at *
    generalize hd : data.size = d at *
    have K1 := Lib.hid (fun W => p_paged W n (by omega))
    have K2 := fun W => p_paged W (d + b) (by omega)
    rw [show ((d + b : Nat) : Int) = (d : Int) + (b : Int) from by omega] at K2
    have K2 := Lib.hid K2
    have ws : IntKind.i64.wrap ((d : Int) + (b : Int)) = (d : Int) + (b : Int) := i64_wrap_eq rfl (by omega)
    have ws2 : wrap64 ((d : Int) + (b : Int)) = (d : Int) + (b : Int) := by unfold wrap64; omega
    generalize pagesN n = pn at *
    generalize pagesN (d + b) = pd at *
    clear m1 m2 m3 m4 m5 m6 m7 m8 m9 m10 m9' hm e h
    go_enter Try.func13, Try.ntmps13
    go_wp2_with fail
    refine (KM.out _).mono ?_
    rintro e w1 ⟨rfl, c1⟩
    have C1 := Lib.hid (C0.out.trans c1)
    have B1 := c1.blk HB.out (fun a => a)
    have x1 := B1.cellv 1 _ rfl
    have x2 := B1.cellv 2 _ rfl
    have x3 := B1.cellv 3 _ rfl
    clear c1 B1
    go_wp2_with fail
    go_quiet ((go_at_call 29; (first | exact quiet_left (K1.out _) | exact quiet_left (K2.out _))))
    go_wp2_with fail
    go_ret2
    exact ⟨rfl, C1.out.drewN _⟩
end Go.Proofs.Ytijooajhjcfneaa
