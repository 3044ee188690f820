/-
  phys.Get, Load, Store, Touched by their contracts.
-/
import Derived.Test.YtodjmfmenfncdaaMem3
namespace Go.Proofs.Ytodjmfmenfncdaa
open Go.RowKit

/-- the bytes from a place on as a string -/
def memStr (V : Nat → Nat) (at_ n : Nat) : ByteArray := strOfNums ((List.range n).map fun i => ((V (at_ + i) : Nat) : Int))
theorem memStr_size (V : Nat → Nat) (at_ n : Nat) : (memStr V at_ n).size = n := by simp [memStr, strOfNums_size]

theorem get_string (w : World) (p g F t : Nat) (V : Nat → Nat) (h : MemM w p g F V t) (off at_ n cap : Nat) (ho : 0 < n → off = at_) (hfit : at_ + n ≤ F * 256) :
    (convert 51 9 (.slice (some ⟨g, off, none⟩) n cap)).run Try.prog w = .ok (.string (memStr V at_ n)) w := by
  by_cases h0 : n = 0
  · subst h0
    rw [run_convert_bytes_zero w _ ByT Try.underlying51 Try.underlying5 _ _ 9 Try.underlying9]
    rfl
  · obtain rfl := ho (by omega)
    obtain ⟨cs, hb, hs, hv⟩ := h.row
    refine run_convert_bytes_arg w 51 ByT Try.underlying51 Try.underlying5 g off n cap _ (by simp) (fun i hi => ?_) 9 Try.underlying9
    rw [hb.cell, hv _ (by omega)]
    simp [List.getD, hi]

set_option maxHeartbeats 800000 in
theorem mem_get (w : World) (p F t : Nat) (hF : F ≤ 256) (o : Option Nat) (V : Nat → Nat) (h : MemA w p o F V t) (at_ n : Nat) (hfit : at_ + n ≤ F * 256) :
    Calls Try.prog 19 #[.pointer (some ⟨p, 0, none⟩), .int .u64 at_, .int .i64 n] w (MemPost w p F t o V (.tuple #[.string (memStr V at_ n), .int .i64 0])) := by
  have HS := Lib.hid (mem_span w p F t hF o V h at_ n hfit)
  clear h
  go_enter Try.func19, Try.ntmps19
  go_wp2_with fail
  refine HS.out.mono ?_
  rintro e w' ⟨g, off, cap, rfl, h1, h2, h3, h4⟩
  have hcv := get_string w' p g F t V h2 off at_ n cap h1 hfit
  have HM := Lib.hid (And.intro h2 (And.intro h3 h4)); clear h1 h2 h3 h4
  go_wp2_with fail
  go_ret2
  exact ⟨g, rfl, HM.out.1, chg_own HM.out.2.1, HM.out.2.2⟩

theorem mem_get_neg (w : World) (p : Nat) (at_ : Nat) (n : Int) (hn : n < 0) :
    Calls Try.prog 19 #[.pointer (some ⟨p, 0, none⟩), .int .u64 at_, .int .i64 n] w fun e w' => e = .returned (.tuple #[.string ByteArray.empty, .int .i64 1]) ∧ w = w' := by
  go_enter Try.func19, Try.ntmps19
  go_wp2_with fail
  go_ret2
  exact ⟨rfl, rfl⟩

theorem mem_get_no (w : World) (p F t : Nat) (hF : F ≤ 256) (o : Option Nat) (V : Nat → Nat) (h : MemA w p o F V t) (at_ n : Nat) (hw : at_ < 18446744073709551616) (hn : n ≤ 9223372036854775807) (hfit : F * 256 < at_ + n) :
    Calls Try.prog 19 #[.pointer (some ⟨p, 0, none⟩), .int .u64 at_, .int .i64 n] w (MemPost w p F t o V (.tuple #[.string ByteArray.empty, .int .i64 3])) := by
  have HS := Lib.hid (mem_span_no w p F t hF o V h at_ n hw (by omega))
  clear h
  go_enter Try.func19, Try.ntmps19
  go_wp2_with fail
  refine HS.out.mono ?_
  rintro e w' ⟨g, rfl, hm⟩
  have HM := Lib.hid hm; clear hm
  go_wp2_with fail
  go_ret2
  exact ⟨g, rfl, HM.out.1, chg_own HM.out.2.1, HM.out.2.2⟩

/-- may a word have so many bytes? -/
def wSized (n : Int) : Bool := decide (n = 1) || decide (n = 2) || decide (n = 4) || decide (n = 8)
theorem phys_sized (w : World) (n : Int) :
    Calls Try.prog 64 #[.int .i64 n] w fun e w' => e = .returned (.bool (wSized n)) ∧ w = w' := by
  obtain ⟨c, hc⟩ : ∃ c, c = wSized n := ⟨_, rfl⟩
  rw [← hc]
  have HC := Lib.hid hc; clear hc
  go_enter Try.func64, Try.ntmps64
  go_wp2_with fail
  all_goals
    go_ret
    have hc := HC.out
    exact ⟨ret_bool (by rw [hc]; unfold wSized; first | (simp_all; done) | rfl), rfl⟩

/-- so often was it touched -/
theorem touch (w : World) (a : Addr) (t : Nat) (_ht : t < 18446744073709551616) (hc : w.cell? a = some (.int .u64 t)) (hf : w.frozen? a = false) :
    Calls Try.prog 65 #[.pointer (some a), .int .u64 1] w fun e w' => (∃ v, e = .returned v) ∧ w' = w.setCell a (.int .u64 ((t + 1) % 18446744073709551616 : Nat)) := by
  have hadd := run_call_add (P := Try.prog) Try.func79 (by kernel_rfl) (by kernel_rfl) (by kernel_rfl) .u64 (by kernel_rfl) (y := 1) (s := ((t + 1) % 18446744073709551616 : Nat)) hc hf (by simp [go_sem, IntKind.wrap, IntKind.bits, IntKind.signed])
  go_enter Try.func65, Try.ntmps65
  go_wp2_with fail
  go_ret
  exact ⟨⟨_, rfl⟩, rfl⟩

theorem MemM.touched {w w' : World} {p g F t t' : Nat} {V : Nat → Nat} (h : MemM w p g F V t) (e : w' = w.setCell ⟨p, 5, none⟩ (.int .u64 t')) : MemM w' p g F V t' ∧ Chg (fun k => k = p) w w' := by
  subst e
  have c : Chg (fun k => k = p) w (w.setCell ⟨p, 5, none⟩ (.int .u64 t')) := (Chg.refl _ _).setCell _ _ (.inl rfl)
  exact ⟨⟨h.blk.set 5 _, h.row.chg c (fun e => h.ne e.symm), h.ne, h.small⟩, c⟩

set_option maxHeartbeats 800000 in
theorem mem_load (w : World) (p F t : Nat) (hF : F ≤ 256) (ht : t < 18446744073709551616) (o : Option Nat) (V : Nat → Nat) (h : MemA w p o F V t) (at_ n : Nat) (hn : wSized n = true) (hfit : at_ + n ≤ F * 256) :
    Calls Try.prog 37 #[.pointer (some ⟨p, 0, none⟩), .int .u64 at_, .int .i64 n] w (MemPost w p F ((t + 1) % 18446744073709551616) o V (.tuple #[.int .u64 (wOf (memStr V at_ n) : Nat), .int .i64 0])) := by
  have HS := fun W (H : MemA W p o F V t) => Lib.hid (mem_span W p F t hF o V H at_ n hfit)
  have HZ := phys_sized w n
  rw [hn] at HZ
  have HO := fun W => Lib.hid (word_of W (memStr V at_ n) (by rw [memStr_size]; unfold maxLen; omega))
  generalize wOf (memStr V at_ n) = q at *
  have HA := Lib.hid h
  have HZ' := Lib.hid HZ; have HS' := Lib.hid HS; have HO' := Lib.hid HO
  clear h HZ HS HO
  go_enter Try.func37, Try.ntmps37
  go_wp2_with fail
  refine HZ'.out.mono ?_
  rintro e w' ⟨rfl, rfl⟩
  go_wp2_with fail
  refine (HS'.out w HA.out).out.mono ?_
  rintro e w' ⟨g, off, cap, rfl, h1, h2, h3, h4⟩
  have c5 := h2.blk.cellv 5 _ rfl
  have f5 := h2.blk.free 5
  have HM := Lib.hid (And.intro h1 (And.intro h2 (And.intro h3 h4))); clear h1 h2 h3 h4
  go_wp2_with fail
  refine (touch w' ⟨p, 5, none⟩ t ht c5 f5).mono ?_
  rintro e w2 ⟨⟨v, rfl⟩, hw2⟩
  have hT := HM.out.2.1.touched hw2
  clear hw2
  have hcv := get_string w2 p g F _ V hT.1 off at_ n cap HM.out.1 hfit
  have HT := Lib.hid hT; clear hT c5 f5
  go_wp2_with fail
  refine (HO'.out w2).out.mono ?_
  rintro e w3 ⟨rfl, rfl⟩
  go_wp2_with fail
  go_ret2
  exact ⟨g, rfl, HT.out.1, chg_own (HM.out.2.2.1.trans HT.out.2), HM.out.2.2.2⟩
end Go.Proofs.Ytodjmfmenfncdaa
