/-
  The walk of the statement LockTurns: true, for every pair of numbers.
-/
import Derived.Test.YthlhdgbpfdaodaaLock9
namespace Go.Proofs.Ythlhdgbpfdaodaa
open Go.RowKit

def ltBk (k : Nat) : Nat → Bool := fun t => decide (t < k)
theorem ltBk_set (k : Nat) : bkSet (ltBk k) k = ltBk (k + 1) := by
  funext t
  unfold bkSet ltBk
  by_cases h : t = k
  · simp [h]
  · by_cases h2 : t < k
    · simp [h, h2]; omega
    · simp [h, h2]; omega
theorem ltBk_0 : (fun _ => false) = ltBk 0 := by
  funext t
  simp [ltBk]

/-- within the second loop: so many were asked for, k were handed back -/
def LtAt (w0 : World) (b N k : Nat) (wr : World) : Prop := ∃ next, N ≤ next ∧ next ≤ N + k ∧ On w0 b 1 next k (ltBk k) wr

set_option maxHeartbeats 1600000 in
theorem lockTurns_a (w : World) (a1 : Int) (N : Nat) (_h1 : 1 ≤ N) (h2 : N ≤ 200) (d1 : decide ((N : Int) < 1) = false) (d2 : decide (200 < (N : Int)) = false) :
    Calls Try.prog 5 #[.int .i64 N, .int .i64 a1] w fun e w' => e = .returned (.bool true) ∧ Below w.heap.size w w' := by
  go_enter Try.func5, Try.ntmps5
  go_wp2_with fail
  refine (shown_true _).mono ?_
  rintro e w1 ⟨rfl, h1⟩
  have H1 := Lib.hid h1; clear h1
  go_wp2_with fail
  refine (on_new w1 1 (by omega) (by omega)).mono ?_
  rintro e w2 ⟨rfl, h2⟩
  have H2 := Lib.hid h2; clear h2
  go_wp2_with fail
  go_loopw [8] (fun i wr => ∃ k : Nat, k ≤ N ∧ i = .int .i64 k ∧ Hid (On w1 w1.heap.size 1 k 0 (fun _ => false) wr)) (fun i _ => N - (intOf i).toNat)
  case atStart => exact ⟨0, Nat.zero_le _, rfl, H2⟩
  case round =>
    obtain ⟨k, hk, rfl, HR⟩ := hrel
    by_cases hlt : k < N
    · have hlt' : decide ((k : Int) < (N : Int)) = true := by simp; omega
      go_wp2_with fail
      refine (on_ask HR.out (by omega)).mono ?_
      rintro e w3 ⟨rfl, h3⟩
      have H3 := Lib.hid h3; clear h3
      go_wp2_with fail
      go_roundw
      case rel => exact ⟨k + 1, by omega, by go_num, H3⟩
      case measure => simp [intOf]; omega
    · have hlt' : decide ((k : Int) < (N : Int)) = false := by simp; omega
      obtain rfl : N = k := by omega
      rw [ltBk_0] at HR
      have HS : Hid (LtAt w1 w1.heap.size N 0 wr) := ⟨N, Nat.le_refl _, Nat.le_refl _, HR.out⟩
      clear HR
      obtain ⟨wo, rfl⟩ : ∃ wo : World, wo = wr := ⟨_, rfl⟩
      go_wp2_with fail
      go_loopw [9] (fun i wr => ∃ k : Nat, k ≤ N ∧ i = .int .i64 k ∧ Hid (LtAt w1 w1.heap.size N k wr)) (fun i _ => N - (intOf i).toNat)
      case atStart => exact ⟨0, Nat.zero_le _, rfl, HS⟩
      case round =>
        obtain ⟨i, hi, rfl, HR⟩ := hrel
        obtain ⟨next, hn1, hn2, hO⟩ := HR.out
        have HO := Lib.hid hO; clear hO HR
        by_cases hlt2 : i < N
        · have hlt2' : decide ((i : Int) < (N : Int)) = true := by simp; omega
          have e1 : lkHas 1 next i (ltBk i) i = true := by simp [lkHas, ltBk]; omega
          have e2 : lkHas 1 next i (ltBk i) (i + 1) = false := by simp [lkHas]
          have hw1 : IntKind.u64.wrap (i : Int) = (i : Int) := by
            unfold IntKind.wrap
            simp [IntKind.bits, IntKind.signed]
            omega
          have hw2 : IntKind.u64.wrap ((i : Int) + 1) = (i : Int) + 1 := by
            unfold IntKind.wrap
            simp [IntKind.bits, IntKind.signed]
            omega
          have E1 := Lib.hid e1; have E2 := Lib.hid e2; clear e1 e2
          have c1 := on_has HO.out i (by omega) (by omega)
          rw [E1.out] at c1
          have C1 := Lib.hid c1; clear c1
          go_wp2_with fail
          refine C1.out.mono ?_
          rintro e v1 ⟨rfl, o1⟩
          have O1 := Lib.hid o1; clear o1 C1 HO
          have c2 := on_has O1.out (i + 1) (by omega) (by omega)
          rw [E2.out, show ((i + 1 : Nat) : Int) = (i : Int) + 1 from by omega] at c2
          have C2 := Lib.hid c2; clear c2
          go_wp2_with fail
          refine C2.out.mono ?_
          rintro e v2 ⟨rfl, o2⟩
          have O2 := Lib.hid o2; clear o2 C2 O1
          have c3 := on_pass_no O2.out (i + 1) (by omega) (by omega) E2.out
          rw [show ((i + 1 : Nat) : Int) = (i : Int) + 1 from by omega] at c3
          have C3 := Lib.hid c3; clear c3
          go_wp2_with fail
          refine C3.out.mono ?_
          rintro e v3 ⟨rfl, o3⟩
          have O3 := Lib.hid o3; clear o3 C3 O2
          by_cases hm : ((i : Int) % 3 == a1.tmod 3) = true
          · go_wp2_with fail
            refine (on_ask O3.out (by omega)).mono ?_
            rintro e v4 ⟨rfl, o4⟩
            have O4 := Lib.hid o4; clear o4 O3
            go_wp2_with fail
            have c4 := on_pass_yes O4.out i (by omega) (by omega) (by simp [lkHas, ltBk]; omega)
            rw [ltBk_set] at c4
            have C4 := Lib.hid c4; clear c4
            refine C4.out.mono ?_
            rintro e v5 ⟨rfl, o5⟩
            have O5 := Lib.hid o5; clear o5 C4
            have e5 : lkHas 1 (next + 1) (i + 1) (ltBk (i + 1)) i = false := by simp [lkHas, ltBk]
            have c5 := on_has O5.out i (by omega) (by omega)
            rw [e5] at c5
            have C5 := Lib.hid c5; clear c5 e5
            go_wp2_with fail
            refine C5.out.mono ?_
            rintro e v6 ⟨rfl, o6⟩
            have O6 := Lib.hid o6; clear o6 C5
            go_wp2_with fail
            go_roundw
            case rel => exact ⟨i + 1, by omega, by go_num, ⟨(next + 1), by omega, by omega, O6.out⟩⟩
            case measure => simp [intOf]; omega
          · have hm' : ((i : Int) % 3 == a1.tmod 3) = false := by simpa using hm
            clear hm
            go_wp2_with fail
            have c4 := on_pass_yes O3.out i (by omega) (by omega) E1.out
            rw [ltBk_set] at c4
            have C4 := Lib.hid c4; clear c4
            refine C4.out.mono ?_
            rintro e v5 ⟨rfl, o5⟩
            have O5 := Lib.hid o5; clear o5 C4
            have e5 : lkHas 1 next (i + 1) (ltBk (i + 1)) i = false := by simp [lkHas, ltBk]
            have c5 := on_has O5.out i (by omega) (by omega)
            rw [e5] at c5
            have C5 := Lib.hid c5; clear c5 e5
            go_wp2_with fail
            refine C5.out.mono ?_
            rintro e v6 ⟨rfl, o6⟩
            have O6 := Lib.hid o6; clear o6 C5
            go_wp2_with fail
            go_roundw
            case rel => exact ⟨i + 1, by omega, by go_num, ⟨next, by omega, by omega, O6.out⟩⟩
            case measure => simp [intOf]; omega
        · have hlt2' : decide ((i : Int) < (N : Int)) = false := by simp; omega
          obtain rfl : N = i := by omega
          go_wp2_with fail
          refine (on_let HO.out (by omega)).mono ?_
          rintro e v1 ⟨rfl, o1⟩
          have O1 := Lib.hid o1; clear o1 HO
          have hw3 : IntKind.u64.wrap (N : Int) = (N : Int) := by
            unfold IntKind.wrap
            simp [IntKind.bits, IntKind.signed]
            omega
          have hge : decide ((N : Int) ≤ min (next : Int) ((N : Int) + 1)) = true := by simp; omega
          go_wp2_with fail
          go_ret
          exact ⟨rfl, (H1.out.trans O1.out.chg).below (Nat.le_refl _) (fun _ h => h.elim)⟩

set_option maxHeartbeats 1600000 in
theorem lockTurns_b (w : World) (a0 a1 : Int) (d1 : decide (a0 < 1) = true) :
    Calls Try.prog 5 #[.int .i64 a0, .int .i64 a1] w fun e w' => e = .returned (.bool true) ∧ Below w.heap.size w w' := by
  obtain ⟨N, hN⟩ : ∃ N : Nat, N = 9 := ⟨9, rfl⟩
  have h2 : N ≤ 200 := by omega
  have _h1 : 1 ≤ N := by omega
  have HN := Lib.hid hN; clear hN
  go_enter Try.func5, Try.ntmps5
  go_wp2_with fail
  refine (shown_true _).mono ?_
  rintro e w1 ⟨rfl, h1⟩
  have H1 := Lib.hid h1; clear h1
  go_wp2_with fail
  refine (on_new w1 1 (by omega) (by omega)).mono ?_
  rintro e w2 ⟨rfl, h2⟩
  have H2 := Lib.hid h2; clear h2
  go_wp2_with fail
  rw [show Value.int IntKind.i64 9 = Value.int IntKind.i64 (N : Int) from by rw [HN.out]; rfl]
  go_loopw [8] (fun i wr => ∃ k : Nat, k ≤ N ∧ i = .int .i64 k ∧ Hid (On w1 w1.heap.size 1 k 0 (fun _ => false) wr)) (fun i _ => N - (intOf i).toNat)
  case atStart => exact ⟨0, Nat.zero_le _, rfl, H2⟩
  case round =>
    obtain ⟨k, hk, rfl, HR⟩ := hrel
    by_cases hlt : k < N
    · have hlt' : decide ((k : Int) < (N : Int)) = true := by simp; omega
      go_wp2_with fail
      refine (on_ask HR.out (by omega)).mono ?_
      rintro e w3 ⟨rfl, h3⟩
      have H3 := Lib.hid h3; clear h3
      go_wp2_with fail
      go_roundw
      case rel => exact ⟨k + 1, by omega, by go_num, H3⟩
      case measure => simp [intOf]; omega
    · have hlt' : decide ((k : Int) < (N : Int)) = false := by simp; omega
      obtain rfl : N = k := by omega
      rw [ltBk_0] at HR
      have HS : Hid (LtAt w1 w1.heap.size N 0 wr) := ⟨N, Nat.le_refl _, Nat.le_refl _, HR.out⟩
      clear HR
      obtain ⟨wo, rfl⟩ : ∃ wo : World, wo = wr := ⟨_, rfl⟩
      go_wp2_with fail
      go_loopw [9] (fun i wr => ∃ k : Nat, k ≤ N ∧ i = .int .i64 k ∧ Hid (LtAt w1 w1.heap.size N k wr)) (fun i _ => N - (intOf i).toNat)
      case atStart => exact ⟨0, Nat.zero_le _, rfl, HS⟩
      case round =>
        obtain ⟨i, hi, rfl, HR⟩ := hrel
        obtain ⟨next, hn1, hn2, hO⟩ := HR.out
        have HO := Lib.hid hO; clear hO HR
        by_cases hlt2 : i < N
        · have hlt2' : decide ((i : Int) < (N : Int)) = true := by simp; omega
          have e1 : lkHas 1 next i (ltBk i) i = true := by simp [lkHas, ltBk]; omega
          have e2 : lkHas 1 next i (ltBk i) (i + 1) = false := by simp [lkHas]
          have hw1 : IntKind.u64.wrap (i : Int) = (i : Int) := by
            unfold IntKind.wrap
            simp [IntKind.bits, IntKind.signed]
            omega
          have hw2 : IntKind.u64.wrap ((i : Int) + 1) = (i : Int) + 1 := by
            unfold IntKind.wrap
            simp [IntKind.bits, IntKind.signed]
            omega
          have E1 := Lib.hid e1; have E2 := Lib.hid e2; clear e1 e2
          have c1 := on_has HO.out i (by omega) (by omega)
          rw [E1.out] at c1
          have C1 := Lib.hid c1; clear c1
          go_wp2_with fail
          refine C1.out.mono ?_
          rintro e v1 ⟨rfl, o1⟩
          have O1 := Lib.hid o1; clear o1 C1 HO
          have c2 := on_has O1.out (i + 1) (by omega) (by omega)
          rw [E2.out, show ((i + 1 : Nat) : Int) = (i : Int) + 1 from by omega] at c2
          have C2 := Lib.hid c2; clear c2
          go_wp2_with fail
          refine C2.out.mono ?_
          rintro e v2 ⟨rfl, o2⟩
          have O2 := Lib.hid o2; clear o2 C2 O1
          have c3 := on_pass_no O2.out (i + 1) (by omega) (by omega) E2.out
          rw [show ((i + 1 : Nat) : Int) = (i : Int) + 1 from by omega] at c3
          have C3 := Lib.hid c3; clear c3
          go_wp2_with fail
          refine C3.out.mono ?_
          rintro e v3 ⟨rfl, o3⟩
          have O3 := Lib.hid o3; clear o3 C3 O2
          by_cases hm : ((i : Int) % 3 == a1.tmod 3) = true
          · go_wp2_with fail
            refine (on_ask O3.out (by omega)).mono ?_
            rintro e v4 ⟨rfl, o4⟩
            have O4 := Lib.hid o4; clear o4 O3
            go_wp2_with fail
            have c4 := on_pass_yes O4.out i (by omega) (by omega) (by simp [lkHas, ltBk]; omega)
            rw [ltBk_set] at c4
            have C4 := Lib.hid c4; clear c4
            refine C4.out.mono ?_
            rintro e v5 ⟨rfl, o5⟩
            have O5 := Lib.hid o5; clear o5 C4
            have e5 : lkHas 1 (next + 1) (i + 1) (ltBk (i + 1)) i = false := by simp [lkHas, ltBk]
            have c5 := on_has O5.out i (by omega) (by omega)
            rw [e5] at c5
            have C5 := Lib.hid c5; clear c5 e5
            go_wp2_with fail
            refine C5.out.mono ?_
            rintro e v6 ⟨rfl, o6⟩
            have O6 := Lib.hid o6; clear o6 C5
            go_wp2_with fail
            go_roundw
            case rel => exact ⟨i + 1, by omega, by go_num, ⟨(next + 1), by omega, by omega, O6.out⟩⟩
            case measure => simp [intOf]; omega
          · have hm' : ((i : Int) % 3 == a1.tmod 3) = false := by simpa using hm
            clear hm
            go_wp2_with fail
            have c4 := on_pass_yes O3.out i (by omega) (by omega) E1.out
            rw [ltBk_set] at c4
            have C4 := Lib.hid c4; clear c4
            refine C4.out.mono ?_
            rintro e v5 ⟨rfl, o5⟩
            have O5 := Lib.hid o5; clear o5 C4
            have e5 : lkHas 1 next (i + 1) (ltBk (i + 1)) i = false := by simp [lkHas, ltBk]
            have c5 := on_has O5.out i (by omega) (by omega)
            rw [e5] at c5
            have C5 := Lib.hid c5; clear c5 e5
            go_wp2_with fail
            refine C5.out.mono ?_
            rintro e v6 ⟨rfl, o6⟩
            have O6 := Lib.hid o6; clear o6 C5
            go_wp2_with fail
            go_roundw
            case rel => exact ⟨i + 1, by omega, by go_num, ⟨next, by omega, by omega, O6.out⟩⟩
            case measure => simp [intOf]; omega
        · have hlt2' : decide ((i : Int) < (N : Int)) = false := by simp; omega
          obtain rfl : N = i := by omega
          go_wp2_with fail
          refine (on_let HO.out (by omega)).mono ?_
          rintro e v1 ⟨rfl, o1⟩
          have O1 := Lib.hid o1; clear o1 HO
          have hw3 : IntKind.u64.wrap (N : Int) = (N : Int) := by
            unfold IntKind.wrap
            simp [IntKind.bits, IntKind.signed]
            omega
          have hge : decide ((N : Int) ≤ min (next : Int) ((N : Int) + 1)) = true := by simp; omega
          go_wp2_with fail
          go_ret
          exact ⟨rfl, (H1.out.trans O1.out.chg).below (Nat.le_refl _) (fun _ h => h.elim)⟩

set_option maxHeartbeats 1600000 in
theorem lockTurns_c (w : World) (a0 a1 : Int) (d1 : decide (a0 < 1) = false) (d2 : decide (200 < a0) = true) :
    Calls Try.prog 5 #[.int .i64 a0, .int .i64 a1] w fun e w' => e = .returned (.bool true) ∧ Below w.heap.size w w' := by
  obtain ⟨N, hN⟩ : ∃ N : Nat, N = 9 := ⟨9, rfl⟩
  have h2 : N ≤ 200 := by omega
  have _h1 : 1 ≤ N := by omega
  have HN := Lib.hid hN; clear hN
  go_enter Try.func5, Try.ntmps5
  go_wp2_with fail
  refine (shown_true _).mono ?_
  rintro e w1 ⟨rfl, h1⟩
  have H1 := Lib.hid h1; clear h1
  go_wp2_with fail
  refine (on_new w1 1 (by omega) (by omega)).mono ?_
  rintro e w2 ⟨rfl, h2⟩
  have H2 := Lib.hid h2; clear h2
  go_wp2_with fail
  rw [show Value.int IntKind.i64 9 = Value.int IntKind.i64 (N : Int) from by rw [HN.out]; rfl]
  go_loopw [8] (fun i wr => ∃ k : Nat, k ≤ N ∧ i = .int .i64 k ∧ Hid (On w1 w1.heap.size 1 k 0 (fun _ => false) wr)) (fun i _ => N - (intOf i).toNat)
  case atStart => exact ⟨0, Nat.zero_le _, rfl, H2⟩
  case round =>
    obtain ⟨k, hk, rfl, HR⟩ := hrel
    by_cases hlt : k < N
    · have hlt' : decide ((k : Int) < (N : Int)) = true := by simp; omega
      go_wp2_with fail
      refine (on_ask HR.out (by omega)).mono ?_
      rintro e w3 ⟨rfl, h3⟩
      have H3 := Lib.hid h3; clear h3
      go_wp2_with fail
      go_roundw
      case rel => exact ⟨k + 1, by omega, by go_num, H3⟩
      case measure => simp [intOf]; omega
    · have hlt' : decide ((k : Int) < (N : Int)) = false := by simp; omega
      obtain rfl : N = k := by omega
      rw [ltBk_0] at HR
      have HS : Hid (LtAt w1 w1.heap.size N 0 wr) := ⟨N, Nat.le_refl _, Nat.le_refl _, HR.out⟩
      clear HR
      obtain ⟨wo, rfl⟩ : ∃ wo : World, wo = wr := ⟨_, rfl⟩
      go_wp2_with fail
      go_loopw [9] (fun i wr => ∃ k : Nat, k ≤ N ∧ i = .int .i64 k ∧ Hid (LtAt w1 w1.heap.size N k wr)) (fun i _ => N - (intOf i).toNat)
      case atStart => exact ⟨0, Nat.zero_le _, rfl, HS⟩
      case round =>
        obtain ⟨i, hi, rfl, HR⟩ := hrel
        obtain ⟨next, hn1, hn2, hO⟩ := HR.out
        have HO := Lib.hid hO; clear hO HR
        by_cases hlt2 : i < N
        · have hlt2' : decide ((i : Int) < (N : Int)) = true := by simp; omega
          have e1 : lkHas 1 next i (ltBk i) i = true := by simp [lkHas, ltBk]; omega
          have e2 : lkHas 1 next i (ltBk i) (i + 1) = false := by simp [lkHas]
          have hw1 : IntKind.u64.wrap (i : Int) = (i : Int) := by
            unfold IntKind.wrap
            simp [IntKind.bits, IntKind.signed]
            omega
          have hw2 : IntKind.u64.wrap ((i : Int) + 1) = (i : Int) + 1 := by
            unfold IntKind.wrap
            simp [IntKind.bits, IntKind.signed]
            omega
          have E1 := Lib.hid e1; have E2 := Lib.hid e2; clear e1 e2
          have c1 := on_has HO.out i (by omega) (by omega)
          rw [E1.out] at c1
          have C1 := Lib.hid c1; clear c1
          go_wp2_with fail
          refine C1.out.mono ?_
          rintro e v1 ⟨rfl, o1⟩
          have O1 := Lib.hid o1; clear o1 C1 HO
          have c2 := on_has O1.out (i + 1) (by omega) (by omega)
          rw [E2.out, show ((i + 1 : Nat) : Int) = (i : Int) + 1 from by omega] at c2
          have C2 := Lib.hid c2; clear c2
          go_wp2_with fail
          refine C2.out.mono ?_
          rintro e v2 ⟨rfl, o2⟩
          have O2 := Lib.hid o2; clear o2 C2 O1
          have c3 := on_pass_no O2.out (i + 1) (by omega) (by omega) E2.out
          rw [show ((i + 1 : Nat) : Int) = (i : Int) + 1 from by omega] at c3
          have C3 := Lib.hid c3; clear c3
          go_wp2_with fail
          refine C3.out.mono ?_
          rintro e v3 ⟨rfl, o3⟩
          have O3 := Lib.hid o3; clear o3 C3 O2
          by_cases hm : ((i : Int) % 3 == a1.tmod 3) = true
          · go_wp2_with fail
            refine (on_ask O3.out (by omega)).mono ?_
            rintro e v4 ⟨rfl, o4⟩
            have O4 := Lib.hid o4; clear o4 O3
            go_wp2_with fail
            have c4 := on_pass_yes O4.out i (by omega) (by omega) (by simp [lkHas, ltBk]; omega)
            rw [ltBk_set] at c4
            have C4 := Lib.hid c4; clear c4
            refine C4.out.mono ?_
            rintro e v5 ⟨rfl, o5⟩
            have O5 := Lib.hid o5; clear o5 C4
            have e5 : lkHas 1 (next + 1) (i + 1) (ltBk (i + 1)) i = false := by simp [lkHas, ltBk]
            have c5 := on_has O5.out i (by omega) (by omega)
            rw [e5] at c5
            have C5 := Lib.hid c5; clear c5 e5
            go_wp2_with fail
            refine C5.out.mono ?_
            rintro e v6 ⟨rfl, o6⟩
            have O6 := Lib.hid o6; clear o6 C5
            go_wp2_with fail
            go_roundw
            case rel => exact ⟨i + 1, by omega, by go_num, ⟨(next + 1), by omega, by omega, O6.out⟩⟩
            case measure => simp [intOf]; omega
          · have hm' : ((i : Int) % 3 == a1.tmod 3) = false := by simpa using hm
            clear hm
            go_wp2_with fail
            have c4 := on_pass_yes O3.out i (by omega) (by omega) E1.out
            rw [ltBk_set] at c4
            have C4 := Lib.hid c4; clear c4
            refine C4.out.mono ?_
            rintro e v5 ⟨rfl, o5⟩
            have O5 := Lib.hid o5; clear o5 C4
            have e5 : lkHas 1 next (i + 1) (ltBk (i + 1)) i = false := by simp [lkHas, ltBk]
            have c5 := on_has O5.out i (by omega) (by omega)
            rw [e5] at c5
            have C5 := Lib.hid c5; clear c5 e5
            go_wp2_with fail
            refine C5.out.mono ?_
            rintro e v6 ⟨rfl, o6⟩
            have O6 := Lib.hid o6; clear o6 C5
            go_wp2_with fail
            go_roundw
            case rel => exact ⟨i + 1, by omega, by go_num, ⟨next, by omega, by omega, O6.out⟩⟩
            case measure => simp [intOf]; omega
        · have hlt2' : decide ((i : Int) < (N : Int)) = false := by simp; omega
          obtain rfl : N = i := by omega
          go_wp2_with fail
          refine (on_let HO.out (by omega)).mono ?_
          rintro e v1 ⟨rfl, o1⟩
          have O1 := Lib.hid o1; clear o1 HO
          have hw3 : IntKind.u64.wrap (N : Int) = (N : Int) := by
            unfold IntKind.wrap
            simp [IntKind.bits, IntKind.signed]
            omega
          have hge : decide ((N : Int) ≤ min (next : Int) ((N : Int) + 1)) = true := by simp; omega
          go_wp2_with fail
          go_ret
          exact ⟨rfl, (H1.out.trans O1.out.chg).below (Nat.le_refl _) (fun _ h => h.elim)⟩

theorem lockTurns_walk (w : World) (a0 : Int) (_w0 : (Lit.int .i64 a0).wf = true) (a1 : Int) (_w1 : (Lit.int .i64 a1).wf = true) :
    Calls Try.prog 5 #[.int .i64 a0, .int .i64 a1] w fun e w' => e = .returned (.bool true) ∧ Below w.heap.size w w' := by
  by_cases h1 : a0 < 1
  · exact lockTurns_b w a0 a1 (by simpa using h1)
  · by_cases h2 : 200 < a0
    · exact lockTurns_c w a0 a1 (by simpa using h1) (by simpa using h2)
    · obtain ⟨n, rfl⟩ := Int.eq_ofNat_of_zero_le (show 0 ≤ a0 by omega)
      exact lockTurns_a w a1 n (by omega) (by omega) (by simpa using h1) (by simpa using h2)
end Go.Proofs.Ythlhdgbpfdaodaa
