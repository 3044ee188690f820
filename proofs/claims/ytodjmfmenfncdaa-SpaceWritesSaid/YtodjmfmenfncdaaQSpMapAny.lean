/-
  Spaces: Map whatever it is asked; a pool and the document's that are made.
-/
import Derived.Test.YtodjmfmenfncdaaG12
import Derived.Test.YtodjmfmenfncdaaQRPool2
import Derived.Test.YtodjmfmenfncdaaQRefTakes
namespace Go.Proofs.Ytodjmfmenfncdaa
open Go.RowKit

/-- what Map makes, and answers -/
def mapR (F : Nat) (s : PS) (root : Nat) (page : Int) (bits : Nat) : PS × Int :=
  if page < 0 ∨ 32768 ≤ page ∨ bits % 2 = 0 ∨ 31 < bits then (s, 1) else mapS F s root page.toNat bits
theorem sp_map_any {S : Nat → Prop} {w : World} {q p F : Nat} {s : PS} {R : Roles} (h : Pl S w q p F 0 s.Fr s.V) (hF : F ≤ 256) (hW : WFS F s R) (root : Nat) (page : Int) (bits : Nat) (hr : R root = some (root, 3, 0)) (hb : bits < 18446744073709551616) {s' : PS} {e : Int} (hs : mapR F s root page bits = (s', e)) :
    Calls Try.prog 24 #[.pointer (some ⟨q, 0, none⟩), .int .i64 root, .int .i64 page, .int .u64 bits] w (StepF S w q p F 0 s'.Fr s'.V (.int .i64 e)) := by
  have ht := hW.taken hr
  unfold mapR at hs
  by_cases c : page < 0 ∨ 32768 ≤ page ∨ bits % 2 = 0 ∨ 31 < bits
  · rw [if_pos c] at hs
    obtain ⟨rfl, rfl⟩ := Prod.mk.inj hs
    by_cases c1 : page < 0
    · exact sp_map_b h hF root page bits hb ht c1
    · by_cases c2 : 32768 ≤ page
      · exact sp_map_c h hF root page bits hb ht c2
      · by_cases c3 : bits % 2 = 0
        · exact sp_map_d h hF root page bits hb ht ⟨by omega, by omega⟩ c3
        · exact sp_map_e h hF root page bits hb ht ⟨by omega, by omega⟩ (by omega) (by omega)
  · rw [if_neg c] at hs
    obtain ⟨n, rfl⟩ := Int.eq_ofNat_of_zero_le (show 0 ≤ page by omega)
    rw [Int.toNat_natCast] at hs
    have k := sp_map h hF hW root n bits hr (by omega) (by omega) (by omega)
    rw [hs] at k
    exact k
/-- behind a page that was asked for: all is well, and as many frames are there -/
theorem good_mapR {F : Nat} (hF : F ≤ 256) {s : PS} {R : Roles} (g : SG F s R) {r bits : Nat} {page : Int} (hr : R r = some (r, 3, 0)) {s' : PS} {e : Int} (hs : mapR F s r page bits = (s', e)) :
    ∃ R', SG F s' R' ∧ (∀ f x, R f = some x → R' f = some x) ∧ s'.left F + cntN (hasB F R' r) = s.left F + cntN (hasB F R r) := by
  unfold mapR at hs
  by_cases c : page < 0 ∨ 32768 ≤ page ∨ bits % 2 = 0 ∨ 31 < bits
  · rw [if_pos c] at hs
    obtain ⟨rfl, rfl⟩ := Prod.mk.inj hs
    exact ⟨R, g, fun _ _ h => h, rfl⟩
  · rw [if_neg c] at hs
    have hb : bits < 32 := by omega
    have hb1 : bits % 2 = 1 := by omega
    have hp : page.toNat < 32768 := by omega
    clear c
    generalize page.toNat = n at *
    rcases mapS_cases hF g.wf g.full hr hp hb hb1 with ⟨h, _⟩ | ⟨h, _⟩ | ⟨_, _, R', l, _, m, hf, _⟩
    · rw [h] at hs; obtain ⟨rfl, rfl⟩ := Prod.mk.inj hs; exact ⟨R, g, fun _ _ h => h, rfl⟩
    · rw [h] at hs; obtain ⟨rfl, rfl⟩ := Prod.mk.inj hs; exact ⟨R, g, fun _ _ h => h, rfl⟩
    · rw [hs] at m; exact ⟨R', ⟨m.grow.wf, hf⟩, m.grow.sub, m.grow.cnt⟩

def BothR (B : Nat) (F : Nat) (e : Ending) (w' : World) (w : World) : Prop :=
  ∃ q p r, e = .returned (.tuple #[.pointer (some ⟨p, 0, none⟩), .pointer (some ⟨q, 0, none⟩), .pointer (some ⟨r, 0, none⟩)]) ∧ Pl (fun k => k < B) w' q p F 0 (frAll 0 F) (fun _ => 0) ∧ Below B w w'
set_option maxRecDepth 100000 in
theorem sp_both (B : Nat) (w : World) (hB : B ≤ w.heap.size) (F : Nat) (h1 : 1 ≤ F) (h2 : F ≤ 256) :
    Calls Try.prog 21 #[.int .i64 F] w fun e w' => BothR B F e w' w := by
  have KT := ref_takes w (F : Int)
  rw [decide_eq_true (show (1 : Int) ≤ (F : Int) ∧ (F : Int) ≤ 256 by omega)] at KT
  have K0 := fun W (hW : B ≤ W.heap.size) => s_new B W hW (F : Int) (by omega) (by omega)
  rw [show ((F : Int)).toNat = F from Int.toNat_natCast F] at K0
  have K1 := fun W p (H : MT B W p F (fun _ => 0)) => f_new H h2 0 (Nat.zero_le _)
  unfold NewF at K1
  have K2 := fun W => ref_new W F h2
  have K3 := fun W r g (H : RM W r g F (fun _ => 0) 0) => rp_new W r g F 0 0 h2 (fun _ => 0) H (Nat.zero_le _)
  have hpl : ∀ W W' q p, Pl (fun k => k < B) W q p F 0 (frAll 0 F) (fun _ => 0) → Chg (fun _ => False) W W' → Pl (fun k => k < B) W' q p F 0 (frAll 0 F) (fun _ => 0) := fun W W' q p h c => h.nothing c
  rw [show ((0 : Nat) : Int) = 0 from rfl] at K1 K3
  have KT := Lib.hid KT; have K0 := Lib.hid K0; have K1 := Lib.hid K1; have K2 := Lib.hid K2; have K3 := Lib.hid K3; have HPL := Lib.hid hpl; have HB := Lib.hid hB
  clear h1 h2 hpl hB
  go_enter Try.func21, Try.ntmps21
  go_wp2_with fail
  refine KT.out.mono ?_
  rintro e w' ⟨rfl, rfl⟩
  go_wp2_with fail
  refine (K0.out w HB.out).mono ?_
  rintro e w1 ⟨rfl, m1, b1⟩
  have M1 := Lib.hid (StepS.toT (by omega) m1); have B1 := Lib.hid b1; clear m1 b1
  go_wp2_with fail
  refine (K1.out w1 _ M1.out).mono ?_
  rintro e w2 ⟨q, rfl, m1, b1⟩
  have M2 := Lib.hid m1; have B2 := Lib.hid (B1.out.trans b1); clear m1 b1
  go_wp2_with fail
  refine (K2.out w2).mono ?_
  rintro e w3 ⟨rfl, m1, c1, _⟩
  have M3 := Lib.hid (And.intro m1 (HPL.out _ _ _ _ M2.out c1)); have B3 := Lib.hid (B2.out.trans (c1.below (Nat.le_trans HB.out B2.out.size) (fun _ h => h.elim))); clear m1 c1
  go_wp2_with fail
  refine (K3.out w3 _ _ M3.out.1).mono ?_
  rintro e w4 ⟨rfl, m1, c1⟩
  have M4 := Lib.hid (HPL.out _ _ _ _ M3.out.2 c1); have B4 := Lib.hid (B3.out.trans (c1.below (Nat.le_trans HB.out B3.out.size) (fun _ h => h.elim))); clear m1 c1
  go_wp2_with fail
  go_ret3
  exact ⟨q, _, _, rfl, M4.out, B4.out⟩
end Go.Proofs.Ytodjmfmenfncdaa
