/-
  The document's root, Part, Frame, word by their contracts.
-/
import Derived.Test.YtodjmfmenfncdaaTyAll
namespace Go.Proofs.Ytodjmfmenfncdaa
open Go.RowKit

theorem rw_frame (w : World) (e : Nat) (he : e < 18446744073709551616) :
    Calls Try.prog 42 #[.int .u64 e] w fun r w' => r = .returned (.int .u64 (e / 1024 : Nat)) ∧ w = w' := by
  have q1 : IntKind.u64.wrap ((e : Int) / 1024) = (e : Int) / 1024 := by rw [u64_wrap]; omega
  go_enter Try.func42, Try.ntmps42
  go_wp2_with fail
  go_ret
  exact ⟨by simp, rfl⟩
/-- the document's memory, that owns none of the blocks of S, however often touched -/
def RX (S : Nat → Prop) (w : World) (r F : Nat) (U : Nat → Nat) : Prop := ∃ g u, u < 18446744073709551616 ∧ RM w r g F U u ∧ ¬ S r ∧ ¬ S g ∧ ∀ k, S k → k < w.heap.size
def StepR (S : Nat → Prop) (w : World) (r F : Nat) (U : Nat → Nat) (v : Value) (e : Ending) (w' : World) : Prop := e = .returned v ∧ RX S w' r F U ∧ Chg (fun k => ¬ S k) w w'
theorem RX.right {S : Nat → Prop} {w w' : World} {r g F u' : Nat} {U' : Nat → Nat} {v : Value} {e : Ending} (hu : u' < 18446744073709551616) (hr : ¬ S r) (hg : ¬ S g) (hS : ∀ k, S k → k < w.heap.size) (k : RmK w r g F u' U' v e w') : StepR S w r F U' v e w' := by
  obtain ⟨he, hm, hc⟩ := k
  exact ⟨he, ⟨g, u', hu, hm, hr, hg, fun k h => Nat.lt_of_lt_of_le (hS k h) hc.size⟩, hc.mono (fun k h => by rcases h with rfl | rfl <;> assumption)⟩
theorem RX.nothing {S : Nat → Prop} {w w' : World} {r F : Nat} {U : Nat → Nat} (h : RX S w r F U) (c : Chg (fun _ => False) w w') : RX S w' r F U := by
  obtain ⟨g, u, hu, hm, hr, hg, hS⟩ := h
  exact ⟨g, u, hu, hm.chg c (fun h => h) (fun h => h), hr, hg, fun k h => Nat.lt_of_lt_of_le (hS k h) c.size⟩
theorem RX.small {S : Nat → Prop} {w : World} {r F : Nat} {U : Nat → Nat} (h : RX S w r F U) : ∀ i, U i < 256 := by
  obtain ⟨g, u, hu, hm, hr, hg, hS⟩ := h
  exact hm.small
theorem RX.lt {S : Nat → Prop} {w : World} {r F : Nat} {U : Nat → Nat} (h : RX S w r F U) : ∀ k, S k → k < w.heap.size := by
  obtain ⟨g, u, hu, hm, hr, hg, hS⟩ := h
  exact hS
theorem StepR.again {S : Nat → Prop} {w w1 w2 : World} {r F : Nat} {U : Nat → Nat} {v : Value} {e : Ending} (c : Chg (fun k => ¬ S k) w w1) (h : StepR S w1 r F U v e w2) : StepR S w r F U v e w2 := ⟨h.1, h.2.1, c.trans h.2.2⟩
theorem RX.fields {S : Nat → Prop} {w : World} {r F : Nat} {U : Nat → Nat} (h : RX S w r F U) :
    ∃ g u, u < 18446744073709551616 ∧ w.cell? ⟨r, 0, none⟩ = some (.slice (some ⟨g, 0, none⟩) (F * 256) (F * 256)) ∧ w.cell? ⟨r, 1, none⟩ = some (.int .u64 (u : Nat)) ∧ w.frozen? ⟨r, 1, none⟩ = false ∧ (∀ cap, (convert 51 9 (.slice (some ⟨g, 0, none⟩) (F * 256) cap)).run Try.prog w = .ok (.string (memStr U 0 (F * 256))) w) ∧
      (∀ i, i < F * 256 → w.cell? ⟨g, i, none⟩ = some (.int .u8 (U i : Nat))) ∧ ∀ u', u' < 18446744073709551616 → RX S (w.setCell ⟨r, 1, none⟩ (.int .u64 (u' : Nat))) r F U ∧ Chg (fun k => ¬ S k) w (w.setCell ⟨r, 1, none⟩ (.int .u64 (u' : Nat))) := by
  obtain ⟨g, u, hu, hm, hr, hg, hS⟩ := h
  refine ⟨g, u, hu, hm.blk.cellv 0 _ rfl, hm.blk.cellv 1 _ rfl, hm.blk.free 1, fun cap => row_string w g (F * 256) U hm.row 0 0 (F * 256) cap (fun _ => rfl) (by omega), fun i hi => hm.cellg i hi, fun u' hu' => ?_⟩
  obtain ⟨h3, c⟩ := hm.touched (t' := u')
  exact ⟨⟨g, u', hu', h3, hr, hg, fun k h => Nat.lt_of_lt_of_le (hS k h) c.size⟩, c.mono (fun k h => by subst h; exact hr)⟩
theorem rx_load {S : Nat → Prop} {w : World} {r F : Nat} {U : Nat → Nat} (h : RX S w r F U) (hF : F ≤ 256) (a : Nat) (ha : a < 18446744073709551616) (n : Int) (x : Int) (hx : x = (a : Int)) :
    Calls Try.prog 72 #[.pointer (some ⟨r, 0, none⟩), .int .u64 x, .int .i64 n] w (StepR S w r F U (.tuple #[.int .u64 (ldV F U a n : Nat), .int .i64 (cdL F a n)])) := by
  obtain ⟨g, u, hu, hm, hr, hg, hS⟩ := h
  subst hx
  exact (rm_load w r g F u hF hu U hm a ha n).mono fun _ _ k => RX.right (tc_lt' _ _ _ _ hu) hr hg hS k
theorem rx_load8 {S : Nat → Prop} {w : World} {r F : Nat} {U : Nat → Nat} (h : RX S w r F U) (hF : F ≤ 256) (a : Nat) (ha : a + 8 ≤ F * 256) (x : Int) (hx : x = (a : Int)) :
    Calls Try.prog 72 #[.pointer (some ⟨r, 0, none⟩), .int .u64 x, .int .i64 8] w (StepR S w r F U (.tuple #[.int .u64 (entV U a : Nat), .int .i64 0])) := by
  have k := rx_load h hF a (by omega) 8 x hx
  rw [(ldV8 F U a ha).1, (ldV8 F U a ha).2] at k
  exact k
theorem rx_store {S : Nat → Prop} {w : World} {r F : Nat} {U : Nat → Nat} (h : RX S w r F U) (hF : F ≤ 256) (a : Nat) (ha : a < 18446744073709551616) (n : Int) (v : Nat) (hv : v < 18446744073709551616) (x : Int) (hx : x = (a : Int)) :
    Calls Try.prog 34 #[.pointer (some ⟨r, 0, none⟩), .int .u64 x, .int .i64 n, .int .u64 v] w (StepR S w r F (stV F U a n v) (.int .i64 (cdL F a n))) := by
  obtain ⟨g, u, hu, hm, hr, hg, hS⟩ := h
  subst hx
  exact (rm_store w r g F u hF hu U hm a ha n v hv).mono fun _ _ k => RX.right (tc_lt' _ _ _ _ hu) hr hg hS k
theorem rw_root (S : Nat → Prop) (w : World) (r F : Nat) (U : Nat → Nat) (h : RX S w r F U) (hF : F ≤ 256) (root : Int) :
    Calls Try.prog 39 #[.pointer (some ⟨r, 0, none⟩), .int .i64 root] w fun e w' => e = .returned (.bool (decide (0 ≤ root ∧ root < (F : Int)))) ∧ w = w' := by
  obtain ⟨g, _, _, c0, c1, _⟩ := h.fields
  have q0 : ((F : Int) * 256).tdiv 256 = (F : Int) := Int.mul_tdiv_cancel _ (by decide)
  have q1 : wrap64 (F : Int) = (F : Int) := by unfold wrap64; omega
  clear h c1
  by_cases h0 : 0 ≤ root
  · have d0 : decide ((0 : Int) ≤ root) = true := decide_eq_true h0
    by_cases h1 : root < (F : Int)
    · have d1 : decide (root < (F : Int)) = true := decide_eq_true h1
      rw [decide_eq_true (show 0 ≤ root ∧ root < (F : Int) from ⟨h0, h1⟩)]
      go_enter Try.func39, Try.ntmps39
      go_wp2_with fail
      go_ret
      exact ⟨rfl, rfl⟩
    · have d1 : decide (root < (F : Int)) = false := decide_eq_false h1
      rw [decide_eq_false (show ¬ (0 ≤ root ∧ root < (F : Int)) from fun h => h1 h.2)]
      go_enter Try.func39, Try.ntmps39
      go_wp2_with fail
      go_ret
      exact ⟨rfl, rfl⟩
  · have d0 : decide ((0 : Int) ≤ root) = false := decide_eq_false h0
    rw [decide_eq_false (show ¬ (0 ≤ root ∧ root < (F : Int)) from fun h => h0 h.1)]
    go_enter Try.func39, Try.ntmps39
    go_wp2_with fail
    go_ret
    exact ⟨rfl, rfl⟩

/-- the part: so many rounds of dividing by 32 -/
theorem rw_part (w : World) (at_ : Nat) (h : at_ < 8388608) (l : Nat) (hl : l ≤ 2) :
    Calls Try.prog 41 #[.int .u64 at_, .int .i64 l] w fun e w' => e = .returned (.int .i64 (at_ / 256 / 32 ^ l % 32 : Nat)) ∧ w = w' := by
  have d1 : decide ((l : Int) < (0 : Int)) = false := decide_eq_false (by omega)
  have d2 : decide ((2 : Int) < (l : Int)) = false := decide_eq_false (by omega)
  have d3 : decide ((8388608 : Int) ≤ (at_ : Int)) = false := decide_eq_false (by omega)
  have d4 : ¬ 2 < l := by omega
  have d5 : ¬ 8388608 ≤ at_ := by omega
  have q0 : IntKind.u64.wrap ((at_ : Int) / 256) = (at_ : Int) / 256 := by rw [u64_wrap]; omega
  obtain ⟨n, hn⟩ : ∃ n, n = at_ / 256 := ⟨_, rfl⟩
  have q1 : (at_ : Int) / 256 = (n : Int) := by omega
  rw [← hn]
  have HN := Lib.hid (show n < 32768 by omega)
  clear hn
  obtain ⟨z, hz⟩ : ∃ z, z = n / 32 ^ l % 32 := ⟨_, rfl⟩
  rw [← hz]
  have HZ0 := Lib.hid hz
  clear hz
  go_enter Try.func41, Try.ntmps41
  go_wp2_with fail
  go_loop [5, 6] (fun x i => ∃ k y : Nat, k ≤ l ∧ i = .int .i64 k ∧ x = .int .u64 (y : Int) ∧ Hid (y = n / 32 ^ k)) (fun _ i => l - (intOf i).toNat)
  case atStart => exact ⟨0, n, Nat.zero_le _, rfl, rfl, Lib.hid (by simp)⟩
  obtain ⟨k, y, hk, rfl, rfl, HY⟩ := hrel
  have hy : y < 32768 := by rw [HY.out]; exact Nat.lt_of_le_of_lt (Nat.div_le_self _ _) HN.out
  have q2 : IntKind.u64.wrap ((y : Int) / 32) = (y : Int) / 32 := by rw [u64_wrap]; omega
  by_cases hlt : k < l
  · have HS := Lib.hid (show y / 32 = n / 32 ^ (k + 1) from by rw [HY.out, Nat.pow_succ, Nat.div_div_eq_div_mul])
    go_wp2_with fail
    exact ⟨⟨k + 1, y / 32, by omega, by go_num, by go_num, HS⟩, by simp [intOf]; omega⟩
  · obtain rfl : k = l := by omega
    have q3 : IntKind.u64.wrap ((y : Int) % 32) = (y : Int) % 32 := by rw [u64_wrap]; omega
    have q4 : wrap64 ((y : Int) % 32) = (y : Int) % 32 := by unfold wrap64; omega
    have HZ := Lib.hid (show (z : Int) = (y : Int) % 32 from by rw [HZ0.out, ← HY.out]; omega)
    clear HY
    go_wp2_with fail
    go_ret
    exact ⟨by rw [HZ.out]; rfl, rfl⟩

set_option maxRecDepth 100000 in
set_option maxHeartbeats 800000 in
theorem rw_word (S : Nat → Prop) (w : World) (r F : Nat) (U : Nat → Nat) (h : RX S w r F U) (hF : F ≤ 256) (tb k : Nat) (ht : tb < F) (hk : k < 32) :
    Calls Try.prog 40 #[.pointer (some ⟨r, 0, none⟩), .int .u64 tb, .int .i64 k] w (StepR S w r F U (.int .u64 (entV U (tb * 256 + 8 * k) : Nat))) := by
  have hfit : tb * 256 + 8 * k + 8 ≤ F * 256 := by omega
  have L := rx_load8 h hF (tb * 256 + 8 * k) hfit _ rfl
  rw [show ((tb * 256 + 8 * k : Nat) : Int) = (tb : Int) * 256 + 8 * (k : Int) from by omega] at L
  generalize entV U (tb * 256 + 8 * k) = y at *
  have q1 : IntKind.u64.wrap ((tb : Int) * 256) = (tb : Int) * 256 := by rw [u64_wrap]; omega
  have q2 : wrap64 (8 * (k : Int)) = 8 * (k : Int) := by unfold wrap64; omega
  have q3 : IntKind.u64.wrap (8 * (k : Int)) = 8 * (k : Int) := by rw [u64_wrap]; omega
  have q4 : IntKind.u64.wrap ((tb : Int) * 256 + 8 * (k : Int)) = (tb : Int) * 256 + 8 * (k : Int) := by rw [u64_wrap]; omega
  have HL := Lib.hid L
  clear L h
  go_enter Try.func40, Try.ntmps40
  go_wp2_with fail
  refine HL.out.mono ?_
  rintro e w1 ⟨rfl, m1, c1⟩
  obtain ⟨g, u1, hu1, _, cc, cf, _, _, hset⟩ := m1.fields
  obtain ⟨u2, hu2⟩ : ∃ u2 : Nat, (u2 : Int) = IntKind.u64.wrap ((u1 : Int) - 1) ∧ u2 < 18446744073709551616 := by
    refine ⟨(IntKind.u64.wrap ((u1 : Int) - 1)).toNat, ?_, ?_⟩
    · rw [u64_wrap]; omega
    · rw [u64_wrap]; omega
  have hw := hset u2 hu2.2
  have q5 : IntKind.u64.wrap ((u1 : Int) - 1) = (u2 : Int) := hu2.1.symm
  have HW := Lib.hid hw; have C1 := Lib.hid c1
  clear m1 hw c1 hu2 hset
  go_wp2_with fail
  go_ret
  exact ⟨rfl, HW.out.1, C1.out.trans HW.out.2⟩
end Go.Proofs.Ytodjmfmenfncdaa
