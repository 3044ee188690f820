/-
  The walk of the statement PhysWords: true, for every input.
-/
import Derived.Test.YteamkchcpmoicaaPhShown
import Derived.Test.YteamkchcpmoicaaRefBytes
namespace Go.Proofs.Yteamkchcpmoicaa
open Go.RowKit

theorem u64_nat' {a : Int} (h : (Lit.int .u64 a).wf = true) : ∃ n : Nat, a = (n : Int) ∧ n < 18446744073709551616 := by
  simp [Lit.wf, IntKind.min, IntKind.max, IntKind.signed, IntKind.bits] at h
  exact ⟨a.toNat, by omega, by omega⟩

theorem byt_memStr (V : Nat → Nat) (hV : ∀ i, V i < 256) (a n j : Nat) (hj : j < n) : byt (memStr V a n) j = V (a + j) := by
  unfold byt memStr
  rw [strOfNums_data]
  have := hV (a + j)
  simp [List.getD, hj]
  omega
theorem wOf_one (V : Nat → Nat) (hV : ∀ i, V i < 256) (a : Nat) : wOf (memStr V a 1) = V a := by
  unfold wOf
  rw [memStr_size, show min 1 8 = 1 from rfl, wOfN, wOfN, byt_memStr V hV a 1 0 (by omega)]
  simp
theorem stV_small (F : Nat) (V : Nat → Nat) (at_ : Nat) (n : Int) (v : Nat) (h : ∀ i, V i < 256) : ∀ i, stV F V at_ n v i < 256 := by
  intro i; unfold stV; split; exact putV_small h (byt_lt _) i; exact h i
theorem tc_lt (F at_ : Nat) (n : Int) (t : Nat) (h : t < 18446744073709551616) : tc F at_ n t < 18446744073709551616 := by
  unfold tc; split; exact Nat.mod_lt _ (by omega); exact h

/-- a memory, however often touched -/
def MT (B : Nat) (w : World) (p F : Nat) (V : Nat → Nat) : Prop := ∃ t, t < 18446744073709551616 ∧ MS B w p F V t
def StepT (B : Nat) (w : World) (p F : Nat) (V : Nat → Nat) (v : Value) (e : Ending) (w' : World) : Prop := e = .returned v ∧ MT B w' p F V ∧ Below B w w'
theorem x_load {B : Nat} {w : World} {p F : Nat} {V : Nat → Nat} (h : MT B w p F V) (hF : F ≤ 256) (at_ : Nat) (hw : at_ < 18446744073709551616) (n : Int) :
    Calls Try.prog 23 #[.pointer (some ⟨p, 0, none⟩), .int .u64 at_, .int .i64 n] w (StepT B w p F V (.tuple #[.int .u64 (ldV F V at_ n : Nat), .int .i64 (cdL F at_ n)])) := by
  obtain ⟨t, ht, hm⟩ := h
  exact (s_load hm hF ht at_ hw n).mono fun _ _ ⟨h1, h2, h3⟩ => ⟨h1, ⟨_, tc_lt _ _ _ _ ht, h2⟩, h3⟩
theorem x_store {B : Nat} {w : World} {p F : Nat} {V : Nat → Nat} (h : MT B w p F V) (hF : F ≤ 256) (at_ : Nat) (hw : at_ < 18446744073709551616) (n : Int) (v : Nat) (hv : v < 18446744073709551616) :
    Calls Try.prog 22 #[.pointer (some ⟨p, 0, none⟩), .int .u64 at_, .int .i64 n, .int .u64 v] w (StepT B w p F (stV F V at_ n v) (.int .i64 (cdL F at_ n))) := by
  obtain ⟨t, ht, hm⟩ := h
  exact (s_store hm hF ht at_ hw n v hv).mono fun _ _ ⟨h1, h2, h3⟩ => ⟨h1, ⟨_, tc_lt _ _ _ _ ht, h2⟩, h3⟩

theorem cdL_cases (F at_ : Nat) (n : Int) : cdL F at_ n = 0 ∧ (n = 1 ∨ n = 2 ∨ n = 4 ∨ n = 8) ∧ at_ + n.toNat ≤ F * 256 ∨ cdL F at_ n = 1 ∧ wSized n = false ∨ cdL F at_ n = 3 := by
  unfold cdL
  by_cases h : wSized n = true
  · rw [if_pos h]
    have := wSized_le h
    by_cases h2 : at_ + n.toNat ≤ F * 256
    · rw [if_pos h2]; exact .inl ⟨rfl, this, h2⟩
    · rw [if_neg h2]; exact .inr (.inr rfl)
  · rw [if_neg h]; exact .inr (.inl ⟨rfl, by simpa using h⟩)

set_option maxRecDepth 100000 in
set_option maxHeartbeats 800000 in
theorem physWords_walk (w : World) (a0 : Int) (w0 : (Lit.int .u64 a0).wf = true) (n : Int) (w1 : (Lit.int .i64 n).wf = true) (a2 : Int) (w2 : (Lit.int .u64 a2).wf = true) :
    Calls Try.prog 4 #[.int .u64 a0, .int .i64 n, .int .u64 a2] w fun e w' => e = .returned (.bool true) ∧ Below w.heap.size w w' := by
  obtain ⟨a, rfl, ha⟩ := u64_nat' w0
  obtain ⟨v, rfl, hv⟩ := u64_nat' w2
  have K0 := fun W (H : w.heap.size ≤ W.heap.size) => Lib.hid (s_new w.heap.size W H 2 (by omega) (by omega))
  rw [show (2 : Int).toNat = 2 from rfl] at K0
  have K1 := fun W p (H : MT w.heap.size W p 2 (fun _ => 0)) => Lib.hid (x_store H (by omega) a ha n v hv)
  have hsm := stV_small 2 (fun _ => 0) a n v (fun _ => by omega)
  generalize stV 2 (fun _ => 0) a n v = V at *
  have K2 := fun W p (H : MT w.heap.size W p 2 V) => Lib.hid (x_load H (by omega) a ha n)
  have C0 := Lib.hid K0; have C1 := Lib.hid K1; have C2 := Lib.hid K2
  clear K0 K1 K2
  have HSM := Lib.hid hsm
  have HC := cdL_cases 2 a n
  rcases HC with ⟨hc, hn, hfit⟩ | ⟨hc, _⟩ | hc
  · have hld : ldV 2 V a n = wOf (memStr V a n.toNat) := by unfold ldV; rw [if_pos hc]
    rw [hc] at C1 C2
    rw [hld] at C2
    obtain ⟨m, rfl⟩ := Int.eq_ofNat_of_zero_le (show 0 ≤ n by omega)
    rw [Int.toNat_natCast] at C2 hfit
    have hm : m ≤ 8 := by omega
    have hwo : wOf (memStr V a m) = wOfN (memStr V a m) m := by unfold wOf; rw [memStr_size, Nat.min_eq_left hm]
    rw [hwo] at C2
    have HFIT := Lib.hid (And.intro hfit ha)
    clear hld hwo hc hn hsm hv w0 w1 w2 hfit ha
    go_enter Try.func4, Try.ntmps4
    go_wp2_with fail
    refine (pshown w).mono ?_
    rintro e w1 ⟨rfl, b1⟩
    have B1 := Lib.hid b1; clear b1
    go_wp2_with fail
    refine (C0.out w1 B1.out.size).out.mono ?_
    rintro e w2 ⟨rfl, m2, b2⟩
    have M2 := Lib.hid (show MT w.heap.size w2 w1.heap.size 2 (fun _ => 0) from ⟨0, by omega, m2⟩); have B2 := Lib.hid (B1.out.trans b2); clear m2 b2
    go_wp2_with fail
    refine (C1.out w2 _ M2.out).out.mono ?_
    rintro e w3 ⟨rfl, m3, b3⟩
    have M3 := Lib.hid m3; have B3 := Lib.hid (B2.out.trans b3); clear m3 b3
    go_wp2_with fail
    refine (C2.out w3 _ M3.out).out.mono ?_
    rintro e w4 ⟨rfl, m4, b4⟩
    have M4 := Lib.hid m4; have B4 := Lib.hid (B3.out.trans b4); clear m4 b4
    generalize w1.heap.size = p at *
    generalize hs : memStr V a m = s at *
    have HS := Lib.hid hs; clear hs
    generalize hq : wOfN s m = q at *
    have HQ := Lib.hid hq; clear hq
    go_wp2_with fail
    go_loopw [13, 14] (fun x i wr => Hid (RfI s m x i) ∧ Hid (MT w.heap.size wr p 2 V ∧ Below w.heap.size w wr)) (fun _ i _ => (intOf i + 1).toNat)
    case atStart => exact ⟨RfI.start s m (by omega), M4.out, B4.out⟩
    case round =>
      obtain ⟨hr, HM⟩ := hrel
      rcases hr.out with ⟨k, v, rfl, rfl, hk, hr2⟩ | ⟨rfl, rfl⟩
      · have hv := rof_lt hr2 hm hk
        have hb := byt_lt s k
        have hfa := HFIT.out
        have F0 : IntKind.u64.wrap (k : Int) = (k : Int) := by rw [u64_wrap]; omega
        have F1 : IntKind.u64.wrap ((a : Int) + (k : Int)) = ((a + k : Nat) : Int) := by rw [u64_wrap]; omega
        have F2 : IntKind.u64.wrap ((v : Int) * 256) = (v : Int) * 256 := by rw [u64_wrap]; omega
        have F3 : IntKind.u64.wrap ((v : Int) * 256 + ((byt s k : Nat) : Int)) = (v : Int) * 256 + ((byt s k : Nat) : Int) := by rw [u64_wrap]; omega
        have hcd : cdL 2 (a + k) 1 = 0 := by
          show (if wSized 1 = true then (if a + k + 1 ≤ 2 * 256 then 0 else 3) else 1 : Int) = 0
          rw [if_pos (by decide), if_pos (by omega)]
        have hl : ldV 2 V (a + k) 1 = byt s k := by
          unfold ldV
          rw [if_pos hcd, ← HS.out, byt_memStr V HSM.out a m k hk]
          exact wOf_one V HSM.out (a + k)
        have L := x_load HM.out.1 (by omega) (a + k) (by omega) 1
        rw [hl, hcd] at L
        have HL := Lib.hid L
        have HR := Lib.hid hr2
        have HBB := Lib.hid HM.out.2
        generalize hy : byt s k = y at *
        have HY := Lib.hid hy
        clear hv hb L hr2 hcd hl hr HM hfa hy
        go_wp2_with fail
        refine HL.out.mono ?_
        rintro e w5 ⟨rfl, m5, b5⟩
        have M5 := Lib.hid m5; have B5 := Lib.hid (HBB.out.trans b5); clear m5 b5
        go_wp2_with fail
        go_roundw
        case rel => exact ⟨Lib.hid (RfI.step HR.out hk (by rw [HY.out]; omega) (by first | rfl | omega)), M5.out, B5.out⟩
        case measure => simp [intOf]
      · rename_i hx0
        have HBB := Lib.hid HM.out.2
        have hq := HQ.out
        rw [hq]
        clear hr HM hq
        go_wp2_with fail
        go_ret
        exact ⟨rfl, HBB.out⟩
  · rw [hc] at C1 C2
    clear hc hsm hv w0 w1 w2 ha
    go_enter Try.func4, Try.ntmps4
    go_wp2_with fail
    refine (pshown w).mono ?_
    rintro e w1 ⟨rfl, b1⟩
    have B1 := Lib.hid b1; clear b1
    go_wp2_with fail
    refine (C0.out w1 B1.out.size).out.mono ?_
    rintro e w2 ⟨rfl, m2, b2⟩
    have M2 := Lib.hid (show MT w.heap.size w2 w1.heap.size 2 (fun _ => 0) from ⟨0, by omega, m2⟩); have B2 := Lib.hid (B1.out.trans b2); clear m2 b2
    go_wp2_with fail
    refine (C1.out w2 _ M2.out).out.mono ?_
    rintro e w3 ⟨rfl, m3, b3⟩
    have M3 := Lib.hid m3; have B3 := Lib.hid (B2.out.trans b3); clear m3 b3
    go_wp2_with fail
    refine (C2.out w3 _ M3.out).out.mono ?_
    rintro e w4 ⟨rfl, m4, b4⟩
    have B4 := Lib.hid (B3.out.trans b4); clear m4 b4
    go_wp2_with fail
    go_ret
    exact ⟨rfl, B4.out⟩
  · rw [hc] at C1 C2
    clear hc hsm hv w0 w1 w2 ha
    go_enter Try.func4, Try.ntmps4
    go_wp2_with fail
    refine (pshown w).mono ?_
    rintro e w1 ⟨rfl, b1⟩
    have B1 := Lib.hid b1; clear b1
    go_wp2_with fail
    refine (C0.out w1 B1.out.size).out.mono ?_
    rintro e w2 ⟨rfl, m2, b2⟩
    have M2 := Lib.hid (show MT w.heap.size w2 w1.heap.size 2 (fun _ => 0) from ⟨0, by omega, m2⟩); have B2 := Lib.hid (B1.out.trans b2); clear m2 b2
    go_wp2_with fail
    refine (C1.out w2 _ M2.out).out.mono ?_
    rintro e w3 ⟨rfl, m3, b3⟩
    have M3 := Lib.hid m3; have B3 := Lib.hid (B2.out.trans b3); clear m3 b3
    go_wp2_with fail
    refine (C2.out w3 _ M3.out).out.mono ?_
    rintro e w4 ⟨rfl, m4, b4⟩
    have B4 := Lib.hid (B3.out.trans b4); clear m4 b4
    go_wp2_with fail
    go_ret
    exact ⟨rfl, B4.out⟩
end Go.Proofs.Yteamkchcpmoicaa
