/-
  phys.Store, the refusals of Load and Store, Touched, frame, Clear by their contracts.
-/
import Derived.Test.YtodjmfmenfncdaaMem4
namespace Go.Proofs.Ytodjmfmenfncdaa
open Go.RowKit

theorem wSized_le {n : Int} (h : wSized n = true) : n = 1 ∨ n = 2 ∨ n = 4 ∨ n = 8 := by
  simp only [wSized, Bool.or_eq_true, decide_eq_true_eq] at h; omega

set_option maxHeartbeats 800000 in
theorem mem_store (w : World) (p F t : Nat) (hF : F ≤ 256) (ht : t < 18446744073709551616) (o : Option Nat) (V : Nat → Nat) (h : MemA w p o F V t) (at_ n v : Nat) (hv : v < 18446744073709551616) (hn : wSized n = true) (hfit : at_ + n ≤ F * 256) :
    Calls Try.prog 33 #[.pointer (some ⟨p, 0, none⟩), .int .u64 at_, .int .i64 n, .int .u64 v] w (MemPost w p F ((t + 1) % 18446744073709551616) o (putV V at_ n (byt (wBytes v n))) (.int .i64 0)) := by
  have HS := fun W (H : MemA W p o F V t) => Lib.hid (mem_span W p F t hF o V H at_ n hfit)
  have HZ := phys_sized w n
  have hle := wSized_le hn
  rw [hn] at HZ
  have HO := fun W => Lib.hid (word_bytes W v hv n)
  have hsz : (wBytes v n).size = n := by rw [wBytes_size]; unfold wCount; omega
  generalize wBytes v n = q at *
  have HA := Lib.hid h
  have HZ' := Lib.hid HZ; have HS' := Lib.hid HS; have HO' := Lib.hid HO
  clear h HZ HS HO hle hv
  go_enter Try.func33, Try.ntmps33
  go_wp2_with fail
  refine HZ'.out.mono ?_
  rintro e w' ⟨rfl, rfl⟩
  go_wp2_with fail
  refine (HS'.out w HA.out).out.mono ?_
  rintro e w' ⟨g, off, cap, rfl, h1, h2, h3, h4⟩
  have c5 := h2.blk.cellv 5 _ rfl
  have f5 := h2.blk.free 5
  have HM := Lib.hid (And.intro h1 (And.intro h2 (And.intro h3 h4))); clear h1 h2 h3 h4
  go_wp2_with fail
  refine (touch w' ⟨p, 5, none⟩ t ht c5 f5).mono ?_
  rintro e w2 ⟨⟨v, rfl⟩, hw2⟩
  have hT := HM.out.2.1.touched hw2
  clear hw2
  have HT := Lib.hid hT; clear hT c5 f5
  go_wp2_with fail
  refine (HO'.out w2).out.mono ?_
  rintro e w3 ⟨rfl, h5⟩
  have h6 := HT.out.1.chg h5 (fun h => h) (fun h => h)
  obtain ⟨w4, hcp, h7, h8⟩ := put_string w3 p g F _ V h6 off at_ cap q (by rw [hsz]; exact HM.out.1) (by omega)
  rw [hsz] at hcp h7
  have HW := Lib.hid (And.intro h5 (And.intro h7 h8)); clear h5 h6 h7 h8
  go_wp2_with fail
  go_ret
  exact ⟨g, rfl, HW.out.2.1, own_chg ((HM.out.2.2.1.trans HT.out.2).trans (HW.out.1.mono (fun _ h => h.elim))) HW.out.2.2 HM.out.2.2.2, HM.out.2.2.2⟩
end Go.Proofs.Ytodjmfmenfncdaa
