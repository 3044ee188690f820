/-
  word.Bytes and word.Of by their contracts.
-/
import Derived.Test.YtodjmfmenfncdaaWd
import Derived.Test.YtodjmfmenfncdaaWordP
import Derived.Maps.AppendAt
import Derived.Laws.BytesArg
namespace Go.Proofs.Ytodjmfmenfncdaa
open Go.RowKit

/-- the lowest bytes of a word, the lowest first -/
def wBy (v : Nat) : Nat → List Int
  | 0 => []
  | n + 1 => ((v % 256 : Nat) : Int) :: wBy (v / 256) n
theorem wBy_len (n : Nat) : ∀ v, (wBy v n).length = n := by
  induction n with
  | zero => intro v; rfl
  | succ n ih => intro v; simp [wBy, ih]
theorem wBy_snoc (n : Nat) : ∀ v, wBy v (n + 1) = wBy v n ++ [((v / 256 ^ n % 256 : Nat) : Int)] := by
  induction n with
  | zero => intro v; simp [wBy]
  | succ n ih =>
    intro v
    rw [wBy, ih (v / 256), wBy, List.cons_append, Nat.div_div_eq_div_mul, Nat.pow_succ, Nat.mul_comm (256 ^ n) 256]
/-- how many bytes -/
def wCount (n : Int) : Nat := (min (max n 0) 8).toNat
/-- a word as bytes -/
def wBytes (v : Nat) (n : Int) : ByteArray := strOfNums (wBy v (wCount n))
theorem wBytes_size (v : Nat) (n : Int) : (wBytes v n).size = wCount n := by rw [wBytes, strOfNums_size, wBy_len]

theorem Try.infoU8 : (Try.prog.info? 5).map (fun i => (i.zero, i.size, i.bytes)) = some (some (.int .u8 0), 1, 1) := by kernel_rfl

theorem conv_own {w : World} {B : Nat} {sv : Value} {n : Nat} {xs : List Int} (h : w.ownsRow B 5 1 sv n (xs.map (Value.int .u8))) : (convert 51 9 sv).run Try.prog w = .ok (.string (strOfNums xs)) w := by
  have hl : xs.length = n := by simpa using h.1
  rcases h.2 with ⟨rfl, h0⟩ | ⟨g, cap, cur, rfl, hb, hg, hn, hm, hs, ht⟩
  · have : xs = [] := List.length_eq_zero_iff.1 (by omega)
    subst this
    rw [run_convert_bytes_nil w 51 5 Try.underlying51 Try.underlying5 0 0 9 Try.underlying9]
    rfl
  · refine run_convert_bytes_arg w 51 5 Try.underlying51 Try.underlying5 g 0 n cap xs hl (fun i hi => ?_) 9 Try.underlying9
    have := h.cellAt i (by omega)
    rw [Nat.zero_add, this]
    simp [List.getD, List.getElem?_eq_getElem (show i < xs.length by omega)]

/-- a round of Bytes -/
def ByAt (w : World) (v k : Nat) (x : Nat) (sv : Value) (wr : World) : Prop :=
  x = v / 256 ^ k ∧ wr.ownsRow w.heap.size 5 1 sv k ((wBy v k).map (Value.int .u8)) ∧ Chg (fun _ => False) w wr

theorem ByAt.next {w wr w1 : World} {v k x : Nat} {sv v' : Value} {T : TypeId} {c : Array Value} (h : ByAt w v k x sv wr) (h1 : w1.ownsRow w.heap.size 5 1 v' (k + 1) ((wBy v k).map (Value.int .u8) ++ [.int .u8 ((x : Int) % 256)]))
    (hg : (wr.alloc (.cells c T)).grownBy w1 sv.ownBlock) : ByAt w v (k + 1) (x / 256) v' w1 := by
  obtain ⟨hx, ho, hc⟩ := h
  refine ⟨by rw [hx, Nat.pow_succ, Nat.div_div_eq_div_mul], ?_, (hc.alloc _).grown hg (fun j hj => .inr (ho.lt j hj).1)⟩
  rw [wBy_snoc, List.map_append, ← hx]
  simpa using h1

set_option maxHeartbeats 800000 in
theorem word_bytes_mid (w : World) (v : Nat) (hv : v ≤ 18446744073709551615) (N : Nat) (hN : N ≤ 8) :
    Calls Try.prog 66 #[.int .u64 v, .int .i64 (N : Int)] w fun e w' => e = .returned (.string (strOfNums (wBy v N))) ∧ Chg (fun _ => False) w w' := by
  obtain ⟨i0, hi, hz0, hz1, hz2⟩ := info_parts Try.infoU8
  go_enter Try.func66, Try.ntmps66
  go_wp2_with fail
  go_loopw [0, 5, 9] (fun x sv i wr => ∃ k y : Nat, k ≤ N ∧ y ≤ 18446744073709551615 ∧ x = .int .u64 (y : Int) ∧ i = .int .i64 k ∧ Hid (ByAt w v k y sv wr)) (fun _ _ i _ => N - (intOf i).toNat)
  case atStart => exact ⟨0, v, Nat.zero_le _, hv, rfl, rfl, by simp, World.ownsRow_nil _ _ _ _, Chg.refl _ _⟩
  case round =>
    obtain ⟨k, y, hk, hy, rfl, rfl, HB⟩ := hrel
    rename_i sv
    have hws : w.heap.size ≤ wr.heap.size := HB.out.2.2.size
    have lt0 : k < N ∨ k = N := by omega
    have km : k + 1 ≤ maxLen := by unfold maxLen; omega
    rcases lt0 with hlt | hlt
    · have hlt' : decide ((k : Int) < (N : Int)) = true := decide_eq_true (by omega)
      have hyw : IntKind.u8.wrap (y : Int) = (y : Int) % 256 := by simp [IntKind.wrap, IntKind.bits, IntKind.signed]
      go_wp2_with (at_builtin; refine wpList_append_own_at _ rfl (.tmp 11) (.tmp 14) 51 rfl w.heap.size 5 i0 (.int .u8 0) 1 1 Try.underlying51 hi hz0 hz1 hz2 rfl (by decide) _ _ _ rfl (HB.out.2.1.alloc _) ⟨wr.heap.size, 0, none⟩ 1 1 [.int .u8 ((y : Int) % 256)] rfl rfl (cell_one_new _ _ _) (by simp [Value.oneCell']) km (by omega) (by simp; omega) ?_; intro v' w1 hown1 hgrow1 _ _; have HN := Lib.hid (HB.out.next hown1 hgrow1); clear hown1 hgrow1)
      go_roundw
      case rel => exact ⟨k + 1, y / 256, by omega, by omega, by go_num, by go_num, HN⟩
      case measure => simp [intOf]; omega
    · have hlt' : decide ((k : Int) < (N : Int)) = false := decide_eq_false (by omega)
      have hlt3 : ¬ k < N := by omega
      have hcv := conv_own HB.out.2.1
      have HC := Lib.hid HB.out.2.2
      have HK := Lib.hid hlt
      clear hlt
      go_wp2_with fail
      go_ret
      exact ⟨ret_str (by rw [HK.out]), HC.out⟩

set_option maxHeartbeats 800000 in
theorem word_bytes_low (w : World) (v : Nat) (hv : v ≤ 18446744073709551615) (n : Int) (hn : n < 0) :
    Calls Try.prog 66 #[.int .u64 v, .int .i64 n] w fun e w' => e = .returned (.string (strOfNums (wBy v 0))) ∧ Chg (fun _ => False) w w' := by
  obtain ⟨i0, hi, hz0, hz1, hz2⟩ := info_parts Try.infoU8
  go_enter Try.func66, Try.ntmps66
  go_wp2_with fail
  go_loopw [0, 5, 9] (fun x sv i wr => ∃ k y : Nat, k ≤ 0 ∧ y ≤ 18446744073709551615 ∧ x = .int .u64 (y : Int) ∧ i = .int .i64 k ∧ Hid (ByAt w v k y sv wr)) (fun _ _ i _ => 0 - (intOf i).toNat)
  case atStart => exact ⟨0, v, Nat.zero_le _, hv, rfl, rfl, by simp, World.ownsRow_nil _ _ _ _, Chg.refl _ _⟩
  case round =>
    obtain ⟨k, y, hk, hy, rfl, rfl, HB⟩ := hrel
    rename_i sv
    have hws : w.heap.size ≤ wr.heap.size := HB.out.2.2.size
    have lt0 : k < 0 ∨ k = 0 := by omega
    have km : k + 1 ≤ maxLen := by unfold maxLen; omega
    rcases lt0 with hlt | hlt
    · omega
    · have hlt' : decide ((k : Int) < (0 : Int)) = false := decide_eq_false (by omega)
      have hlt3 : ¬ k < 0 := by omega
      have hcv := conv_own HB.out.2.1
      have HC := Lib.hid HB.out.2.2
      have HK := Lib.hid hlt
      clear hlt
      go_wp2_with fail
      go_ret
      exact ⟨ret_str (by rw [HK.out]), HC.out⟩

set_option maxHeartbeats 800000 in
theorem word_bytes_high (w : World) (v : Nat) (hv : v ≤ 18446744073709551615) (n : Int) (hn : 8 < n) :
    Calls Try.prog 66 #[.int .u64 v, .int .i64 n] w fun e w' => e = .returned (.string (strOfNums (wBy v 8))) ∧ Chg (fun _ => False) w w' := by
  obtain ⟨i0, hi, hz0, hz1, hz2⟩ := info_parts Try.infoU8
  go_enter Try.func66, Try.ntmps66
  go_wp2_with fail
  go_loopw [0, 5, 9] (fun x sv i wr => ∃ k y : Nat, k ≤ 8 ∧ y ≤ 18446744073709551615 ∧ x = .int .u64 (y : Int) ∧ i = .int .i64 k ∧ Hid (ByAt w v k y sv wr)) (fun _ _ i _ => 8 - (intOf i).toNat)
  case atStart => exact ⟨0, v, Nat.zero_le _, hv, rfl, rfl, by simp, World.ownsRow_nil _ _ _ _, Chg.refl _ _⟩
  case round =>
    obtain ⟨k, y, hk, hy, rfl, rfl, HB⟩ := hrel
    rename_i sv
    have hws : w.heap.size ≤ wr.heap.size := HB.out.2.2.size
    have lt0 : k < 8 ∨ k = 8 := by omega
    have km : k + 1 ≤ maxLen := by unfold maxLen; omega
    rcases lt0 with hlt | hlt
    · have hlt' : decide ((k : Int) < (8 : Int)) = true := decide_eq_true (by omega)
      have hyw : IntKind.u8.wrap (y : Int) = (y : Int) % 256 := by simp [IntKind.wrap, IntKind.bits, IntKind.signed]
      go_wp2_with (at_builtin; refine wpList_append_own_at _ rfl (.tmp 11) (.tmp 14) 51 rfl w.heap.size 5 i0 (.int .u8 0) 1 1 Try.underlying51 hi hz0 hz1 hz2 rfl (by decide) _ _ _ rfl (HB.out.2.1.alloc _) ⟨wr.heap.size, 0, none⟩ 1 1 [.int .u8 ((y : Int) % 256)] rfl rfl (cell_one_new _ _ _) (by simp [Value.oneCell']) km (by omega) (by simp; omega) ?_; intro v' w1 hown1 hgrow1 _ _; have HN := Lib.hid (HB.out.next hown1 hgrow1); clear hown1 hgrow1)
      go_roundw
      case rel => exact ⟨k + 1, y / 256, by omega, by omega, by go_num, by go_num, HN⟩
      case measure => simp [intOf]; omega
    · have hlt' : decide ((k : Int) < (8 : Int)) = false := decide_eq_false (by omega)
      have hlt3 : ¬ k < 8 := by omega
      have hcv := conv_own HB.out.2.1
      have HC := Lib.hid HB.out.2.2
      have HK := Lib.hid hlt
      clear hlt
      go_wp2_with fail
      go_ret
      exact ⟨ret_str (by rw [HK.out]), HC.out⟩

theorem word_bytes (w : World) (v : Nat) (hv : v < 18446744073709551616) (n : Int) :
    Calls Try.prog 66 #[.int .u64 v, .int .i64 n] w fun e w' => e = .returned (.string (wBytes v n)) ∧ Chg (fun _ => False) w w' := by
  by_cases h1 : n < 0
  · have e : wCount n = 0 := by unfold wCount; omega
    rw [wBytes, e]
    exact word_bytes_low w v (by omega) n h1
  · by_cases h2 : 8 < n
    · have e : wCount n = 8 := by unfold wCount; omega
      rw [wBytes, e]
      exact word_bytes_high w v (by omega) n h2
    · obtain ⟨m, rfl⟩ := Int.eq_ofNat_of_zero_le (show 0 ≤ n by omega)
      have e : wCount (m : Int) = m := by unfold wCount; omega
      rw [wBytes, e]
      exact word_bytes_mid w v (by omega) m (by omega)
end Go.Proofs.Ytodjmfmenfncdaa
