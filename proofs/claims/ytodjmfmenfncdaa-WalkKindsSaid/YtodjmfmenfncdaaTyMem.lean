/-
  The statements' memory of eight frames, with words in it; and the document's.
-/
import Derived.Test.YtodjmfmenfncdaaTyPair
import Derived.Test.YtodjmfmenfncdaaOpenS
namespace Go.Proofs.Ytodjmfmenfncdaa
open Go.RowKit

theorem px_store_l {S : Nat → Prop} {w : World} {p r F : Nat} {V U : Nat → Nat} (h : PX S w p r F V U) (hF : F ≤ 256) (a : Nat) (ha : a < 18446744073709551616) (v : Nat) (hv : v < 18446744073709551616) :
    Calls Try.prog 33 #[.pointer (some ⟨p, 0, none⟩), .int .u64 a, .int .i64 8, .int .u64 v] w (StepX S w p r F (stV F V a 8 v) U (.int .i64 (cdL F a 8))) := by
  obtain ⟨t, u, h⟩ := h
  exact (pl_store h hF a ha 8 v hv).mono fun _ _ ⟨k1, k2, k3⟩ => ⟨k1, ⟨_, _, k2⟩, k3⟩
theorem px_store_r {S : Nat → Prop} {w : World} {p r F : Nat} {V U : Nat → Nat} (h : PX S w p r F V U) (hF : F ≤ 256) (a : Nat) (ha : a < 18446744073709551616) (v : Nat) (hv : v < 18446744073709551616) :
    Calls Try.prog 34 #[.pointer (some ⟨r, 0, none⟩), .int .u64 a, .int .i64 8, .int .u64 v] w (StepX S w p r F V (stV F U a 8 v) (.int .i64 (cdL F a 8))) := by
  obtain ⟨t, u, h⟩ := h
  exact (pr_store h hF a ha 8 v hv).mono fun _ _ ⟨k1, k2, k3⟩ => ⟨k1, ⟨_, _, k2⟩, k3⟩

def wNat : Value → Nat
  | .int _ x => x.toNat
  | _ => 0
/-- the bytes behind so many words -/
def memF (V0 : Nat → Nat → Value) : Nat → Nat → Nat
  | 0 => fun _ => 0
  | k + 1 => stV 8 (memF V0 k) (wNat (V0 k 0)) 8 (wNat (V0 k 1))

/-- within the loop -/
def MemAt (w : World) (p r : Nat) (V : Nat → Nat) (wr : World) : Prop := PX (fun k => k < w.heap.size) wr p r 8 V V ∧ Below w.heap.size w wr
def MemMade (w : World) (V : Nat → Nat) (e : Ending) (w' : World) : Prop :=
  ∃ p r, e = .returned (.tuple #[.pointer (some ⟨p, 0, none⟩), .pointer (some ⟨r, 0, none⟩)]) ∧ MemAt w p r V w'

set_option maxRecDepth 100000 in
set_option maxHeartbeats 1600000 in
theorem law_memory (w : World) (a0 : Option Addr) (len0 cap0 : Nat) (V0 : Nat → Nat → Value) (s0 : SRow w a0 len0 2 V0)
    (t0 : ∀ i, i < len0 → ∃ x : Int, V0 i 0 = .int .u64 x ∧ (Lit.int .u64 x).wf = true) (t1 : ∀ i, i < len0 → ∃ x : Int, V0 i 1 = .int .u64 x ∧ (Lit.int .u64 x).wf = true) (hlen : len0 ≤ 9223372036854775807) :
    Calls Try.prog 12 #[.slice a0 len0 cap0] w (MemMade w (memF V0 len0)) := by
  have K0 := s_new w.heap.size w (Nat.le_refl _) 8 (by omega) (by omega)
  rw [show (8 : Int).toNat = 8 from rfl] at K0
  have KR := fun W => Lib.hid (ref_new W 8 (by omega))
  rw [show ((8 : Nat) : Int) = 8 from rfl] at KR
  have C0 := Lib.hid K0; have CR := Lib.hid KR
  have S0 := Lib.hid s0; have T0 := Lib.hid t0; have T1 := Lib.hid t1
  clear K0 KR s0 t0 t1
  go_enter Try.func12, Try.ntmps12
  go_wp2_with fail
  refine C0.out.mono ?_
  rintro e w2 ⟨rfl, m2, b2⟩
  have M2 := Lib.hid m2; have B2 := Lib.hid b2; clear m2 b2
  go_wp2_with fail
  refine (CR.out w2).out.mono ?_
  rintro e w3 ⟨rfl, m3, c3, _⟩
  have M3 := Lib.hid (show MemAt w w.heap.size (w2.heap.size + 1) (memF V0 0) w3 from ⟨⟨_, _, Pair.made M2.out (by omega) m3 c3⟩, B2.out.trans (c3.below B2.out.size (fun _ h => h.elim))⟩); clear m3 c3
  generalize hp : w.heap.size = p at *
  have HP := Lib.hid hp; clear hp
  generalize w2.heap.size + 1 = r at *
  go_wp2_with fail
  go_loopw [7] (fun i wr => ∃ k : Nat, k ≤ len0 ∧ i = .int .i64 k ∧ Hid (MemAt w p r (memF V0 k) wr)) (fun i _ => len0 - (intOf i).toNat)
  case atStart => exact ⟨0, Nat.zero_le _, rfl, M3⟩
  case round =>
    obtain ⟨k, hk, rfl, HR⟩ := hrel
    obtain ⟨hM, hBw⟩ := HR.out
    by_cases hlt : k < len0
    · obtain ⟨ab, off, rfl, hab, hcell⟩ : ∃ ab off, a0 = some ⟨ab, off, none⟩ ∧ ab < w.heap.size ∧ ∀ i, i < len0 → ∀ j, j < 2 → w.cell? ⟨ab, off + (i * 2 + j), none⟩ = some (V0 i j) := by
        rcases S0.out with h | h
        · omega
        · exact h
      obtain ⟨tk, htk, htw⟩ := T0.out k hlt
      obtain ⟨t, rfl, ht⟩ := u64_nat' htw
      obtain ⟨vk, hvk, hvw⟩ := T1.out k hlt
      obtain ⟨v, rfl, hv⟩ := u64_nat' hvw
      have hF : memF V0 (k + 1) = stV 8 (memF V0 k) t 8 v := by rw [memF, htk, hvk]; rfl
      have gb : ∀ W, Below w.heap.size w W → W.cell? ⟨ab, off + k * 2, none⟩ = some (.int .u64 (t : Int)) ∧ W.cell? ⟨ab, off + k * 2 + 1, none⟩ = some (.int .u64 (v : Int)) := fun W h =>
        ⟨by rw [h.cell hab, ← htk]; exact hcell k hlt 0 (by omega), by rw [h.cell hab, ← hvk]; exact hcell k hlt 1 (by omega)⟩
      have GB := Lib.hid gb
      obtain ⟨x0, x1⟩ := gb _ hBw
      have k0 : (0 : Int) ≤ (k : Int) := by omega
      have k1 : (k : Int) < (len0 : Int) := by omega
      have K1 := px_store_l hM.drew (by omega) t ht v hv
      have K2 := fun W (H : PX (fun k => k < w.heap.size) W p r 8 (stV 8 (memF V0 k) t 8 v) (memF V0 k)) => Lib.hid (px_store_r H (by omega) t ht v hv)
      rw [← hF] at K1 K2
      generalize cdL 8 t 8 = cc at *
      generalize hV2 : memF V0 (k + 1) = V2 at *
      have HV2 := Lib.hid hV2; clear hV2
      have C1 := Lib.hid K1; have C2 := Lib.hid K2
      have HB := Lib.hid hBw
      clear hcell htk hvk htw hvw gb hM hBw HR K1 K2 ht hv hF
      go_wp2_with fail
      go_region_held3 (fun w' => w'.cell? ⟨ab, off + k * 2, none⟩ = some (.int .u64 (t : Int)) ∧ w'.cell? ⟨ab, off + k * 2 + 1, none⟩ = some (.int .u64 (v : Int))) (first | assumption | exact ⟨x0, x1⟩ | (simp [*]; done))
        (first
          | (go_at_call 33; refine C1.out.mono ?_; rintro e v1 ⟨rfl, m5, b5⟩; have B5 := Lib.hid (HB.out.drew.trans (b5.below (B := w.heap.size) HB.out.drew.size (fun _ h => Nat.le_of_not_lt h))); have cT : v1.cell? ⟨ab, off + k * 2, none⟩ = some (.int .u64 (t : Int)) ∧ v1.cell? ⟨ab, off + k * 2 + 1, none⟩ = some (.int .u64 (v : Int)) := GB.out _ B5.out; have M5 := Lib.hid m5; clear m5 b5))
      have C3 := Lib.hid (C2.out _ M5.out.drew).out
      obtain ⟨x0, x1⟩ := GB.out _ B5.out
      go_wp2_with fail
      go_region_held3 (fun w' => w'.cell? ⟨ab, off + k * 2, none⟩ = some (.int .u64 (t : Int)) ∧ w'.cell? ⟨ab, off + k * 2 + 1, none⟩ = some (.int .u64 (v : Int))) (first | assumption | exact ⟨x0, x1⟩ | (simp [*]; done))
        (first
          | (go_at_call 34; refine C3.out.mono ?_; rintro e v2 ⟨rfl, m6, b6⟩; have B6 := Lib.hid (B5.out.drew.trans (b6.below (B := w.heap.size) B5.out.drew.size (fun _ h => Nat.le_of_not_lt h))); have cT2 : v2.cell? ⟨ab, off + k * 2, none⟩ = some (.int .u64 (t : Int)) ∧ v2.cell? ⟨ab, off + k * 2 + 1, none⟩ = some (.int .u64 (v : Int)) := GB.out _ B6.out; have M6 := Lib.hid m6; clear m6 b6))
      go_wp2_with fail
      go_roundw
      case rel => exact ⟨k + 1, by omega, by go_num, by rw [HV2.out]; exact M6.out, B6.out⟩
      case measure => simp [intOf]; omega
    · obtain rfl : k = len0 := by omega
      have HE := Lib.hid (And.intro hM hBw)
      clear hM hBw HR
      go_wp2_with fail
      go_ret2
      exact ⟨_, _, rfl, HE.out⟩
end Go.Proofs.Ytodjmfmenfncdaa
