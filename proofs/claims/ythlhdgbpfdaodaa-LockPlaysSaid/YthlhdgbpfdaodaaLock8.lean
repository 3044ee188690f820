/-
  The reference's lock, its methods by contracts.
-/
import Derived.Test.YthlhdgbpfdaodaaLock7
import Derived.Maps.AppendAt
import Derived.Deep.DeepMust
namespace Go.Proofs.Ythlhdgbpfdaodaa
open Go.RowKit Go.Maps

abbrev RfT : TypeId := 32

/-- the reference's lock in block r -/
def RfAt (w : World) (r wide : Nat) (L : List Bool) (passed : Nat) (sa : Option Addr) (cap : Nat) : Prop :=
  Blk w r #[.int .i64 wide, .slice sa L.length cap, .int .i64 passed] RfT ∧ w.ownsRow 0 4 1 (.slice sa L.length cap) L.length (L.map Value.bool) ∧ ∀ a, sa = some a → a.block ≠ r

/-- its blocks -/
def RfFp (r : Nat) (sa : Option Addr) : Nat → Prop := fun k => k = r ∨ ∃ a, sa = some a ∧ k = a.block

theorem RfAt.chg {S : Nat → Prop} {w w' : World} {r wide passed : Nat} {L : List Bool} {sa : Option Addr} {cap : Nat} (h : RfAt w r wide L passed sa cap) (c : Chg S w w') (hn : ∀ k, RfFp r sa k → ¬ S k) : RfAt w' r wide L passed sa cap := by
  obtain ⟨h1, ⟨h2, h3⟩, h4⟩ := h
  refine ⟨c.blk h1 (hn r (.inl rfl)), ⟨h2, ?_⟩, h4⟩
  rcases h3 with h3 | ⟨g, cap', cur, hv, hb, hg, hr⟩
  · exact .inl h3
  · refine .inr ⟨g, cap', cur, hv, hb, ?_, hr⟩
    simp only [Value.slice.injEq] at hv
    have hne := hn g (.inr ⟨_, hv.1, rfl⟩)
    rw [c.block g (lt_of_block hg) hne]
    exact hg
theorem RfAt.fps {w : World} {r wide passed : Nat} {L : List Bool} {sa : Option Addr} {cap : Nat} (h : RfAt w r wide L passed sa cap) : ∀ k, RfFp r sa k → k < w.heap.size := by
  obtain ⟨h1, ⟨_, h3⟩, _⟩ := h
  rintro k (rfl | ⟨a, ha, rfl⟩)
  · exact h1.lt
  · rcases h3 with ⟨h3, _⟩ | ⟨g, cap', cur, hv, hb, hg, hr⟩
    · simp [ha] at h3
    · simp only [Value.slice.injEq] at hv
      rw [ha] at hv
      simp at hv
      rw [hv.1]
      exact lt_of_block hg
/-- a cell of the row -/
theorem RfAt.cell {w : World} {r wide passed : Nat} {L : List Bool} {sa : Option Addr} {cap : Nat} (h : RfAt w r wide L passed sa cap) (t : Nat) (ht : t < L.length) :
    ∃ g, sa = some ⟨g, 0, none⟩ ∧ g ≠ r ∧ w.cell? ⟨g, t, none⟩ = some (.bool (L.getD t false)) ∧ w.frozen? ⟨g, t, none⟩ = false := by
  obtain ⟨h1, h2, h4⟩ := h
  rcases h2.2 with ⟨_, h3⟩ | ⟨g, cap', cur, hv, hb, hg, hr⟩
  · omega
  · simp only [Value.slice.injEq] at hv
    obtain ⟨rfl, _, rfl⟩ := hv
    refine ⟨g, rfl, h4 _ rfl, ?_, h2.frozenAt t⟩
    rw [h2.cellAt t (by omega)]
    simp [List.getD, ht]

theorem rf_takes (w : World) (n : Int) :
    Calls Try.prog 8 #[.int .i64 n] w fun e w' => e = .returned (.bool (decide (1 ≤ n) && decide (n ≤ 64))) ∧ w = w' := by
  by_cases h1 : 1 ≤ n
  · by_cases h2 : n ≤ 64
    · have e : (decide (1 ≤ n) && decide (n ≤ 64)) = true := by simp [h1, h2]
      rw [e]
      go_enter Try.func8, Try.ntmps8
      go_wp2_with fail
      go_ret
      exact ⟨rfl, rfl⟩
    · have e : (decide (1 ≤ n) && decide (n ≤ 64)) = false := by simp [h2]
      rw [e]
      go_enter Try.func8, Try.ntmps8
      go_wp2_with fail
      go_ret
      exact ⟨rfl, rfl⟩
  · have e : (decide (1 ≤ n) && decide (n ≤ 64)) = false := by simp [h1]
    rw [e]
    go_enter Try.func8, Try.ntmps8
    go_wp2_with fail
    go_ret
    exact ⟨rfl, rfl⟩

theorem rf_waiting (w : World) (r wide passed : Nat) (L : List Bool) (sa : Option Addr) (cap : Nat) (h : RfAt w r wide L passed sa cap) (hp : passed ≤ L.length) (hb : L.length ≤ 4611686018427387904) :
    Calls Try.prog 16 #[.pointer (some ⟨r, 0, none⟩)] w fun e w' => e = .returned (.int .u64 ((L.length : Int) - passed)) ∧ ∃ n, w' = w.drewN n := by
  have c1 := h.1.cellv 1 _ rfl
  have c2 := h.1.cellv 2 _ rfl
  have hs : IntKind.i64.wrap ((L.length : Int) - (passed : Int)) = (L.length : Int) - (passed : Int) := by
    unfold IntKind.wrap
    simp [IntKind.bits, IntKind.signed]
    omega
  have hs2 : IntKind.u64.wrap ((L.length : Int) - (passed : Int)) = (L.length : Int) - (passed : Int) := by
    unfold IntKind.wrap
    simp [IntKind.bits, IntKind.signed]
    omega
  clear hb h hp
  go_enter Try.func16, Try.ntmps16
  go_wp2_with fail
  go_quiet (fail)
  go_wp2
  go_ret
  exact ⟨rfl, _, rfl⟩

theorem rf_let (w : World) (r wide passed : Nat) (L : List Bool) (sa : Option Addr) (cap : Nat) (h : RfAt w r wide L passed sa cap) (hq : passed + wide ≤ 4611686018427387904) (hb : L.length ≤ 4611686018427387904) :
    Calls Try.prog 18 #[.pointer (some ⟨r, 0, none⟩)] w fun e w' => e = .returned (.int .u64 (min (L.length : Int) ((passed : Int) + wide))) ∧ ∃ n, w' = w.drewN n := by
  have c0 := h.1.cellv 0 _ rfl
  have c1 := h.1.cellv 1 _ rfl
  have c2 := h.1.cellv 2 _ rfl
  have hs : IntKind.i64.wrap ((passed : Int) + (wide : Int)) = (passed : Int) + (wide : Int) := by
    unfold IntKind.wrap
    simp [IntKind.bits, IntKind.signed]
    omega
  have hq' : (passed : Int) + (wide : Int) ≤ 4611686018427387904 := by omega
  have hb' : (L.length : Int) ≤ 4611686018427387904 := by omega
  clear hb h hq
  go_enter Try.func18, Try.ntmps18
  go_wp2_with fail
  go_quiet (fail)
  clear hs
  go_wp2
  all_goals
    go_ret
    exact ⟨ret_int (by omega), _, rfl⟩

def rfHas (wide passed : Nat) (L : List Bool) (t : Nat) : Bool := lkHas wide L.length passed (fun k => L.getD k false) t

set_option maxHeartbeats 800000 in
theorem rf_has (w : World) (r wide passed t : Nat) (L : List Bool) (sa : Option Addr) (cap : Nat) (h : RfAt w r wide L passed sa cap) (hq : passed + wide ≤ 4611686018427387904) (hb : L.length ≤ 4611686018427387904) :
    Calls Try.prog 14 #[.pointer (some ⟨r, 0, none⟩), .int .u64 t] w fun e w' => e = .returned (.bool (rfHas wide passed L t)) ∧ ∃ n, w' = w.drewN n := by
  have c0 := h.1.cellv 0 _ rfl
  have c1 := h.1.cellv 1 _ rfl
  have c2 := h.1.cellv 2 _ rfl
  have hs : IntKind.i64.wrap ((passed : Int) + (wide : Int)) = (passed : Int) + (wide : Int) := by
    unfold IntKind.wrap
    simp [IntKind.bits, IntKind.signed]
    omega
  have hs2 : IntKind.u64.wrap ((passed : Int) + (wide : Int)) = (passed : Int) + (wide : Int) := by
    unfold IntKind.wrap
    simp [IntKind.bits, IntKind.signed]
    omega
  have hs3 : IntKind.u64.wrap (L.length : Int) = (L.length : Int) := by
    unfold IntKind.wrap
    simp [IntKind.bits, IntKind.signed]
    omega
  by_cases h1 : t < L.length
  · have hd : decide ((t : Int) < (L.length : Int)) = true := by simp; omega
    have hd' : decide (t < L.length) = true := by simp; omega
    obtain ⟨g, hsa, _, ct, _⟩ := h.cell t h1
    subst hsa
    by_cases h2 : t < passed + wide
    · have he : decide ((t : Int) < (passed : Int) + (wide : Int)) = true := by simp; omega
      have he' : decide (t < passed + wide) = true := by simp; omega
      have e : rfHas wide passed L t = !L.getD t false := by simp [rfHas, lkHas, h1, h2]
      rw [e]
      have ti0 : (0 : Int) ≤ (t : Int) := by omega
      have ti1 : (t : Int) < (L.length : Int) := by omega
      clear h hq hb e
      generalize L.getD t false = q at *
      go_enter Try.func14, Try.ntmps14
      go_wp2_with fail
      go_quiet (fail)
      go_wp2
      go_ret
      exact ⟨rfl, _, rfl⟩
    · have he : decide ((t : Int) < (passed : Int) + (wide : Int)) = false := by simp; omega
      have he' : decide (t < passed + wide) = false := by simp; omega
      have e : rfHas wide passed L t = false := by simp [rfHas, lkHas, h2]
      rw [e]
      clear h hq hb e ct
      go_enter Try.func14, Try.ntmps14
      go_wp2_with fail
      go_quiet (fail)
      go_wp2
      go_ret
      exact ⟨rfl, _, rfl⟩
  · have hd : decide ((t : Int) < (L.length : Int)) = false := by simp; omega
    have hd' : decide (t < L.length) = false := by simp; omega
    have e : rfHas wide passed L t = false := by simp [rfHas, lkHas, h1]
    rw [e]
    clear h hq hb e
    go_enter Try.func14, Try.ntmps14
    go_wp2_with fail
    go_quiet (fail)
    go_wp2
    go_ret
    exact ⟨rfl, _, rfl⟩
end Go.Proofs.Ythlhdgbpfdaodaa
