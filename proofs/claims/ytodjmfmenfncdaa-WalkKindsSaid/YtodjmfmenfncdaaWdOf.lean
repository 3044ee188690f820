/-
  word.Of by its contract.
-/
import Derived.Test.YtodjmfmenfncdaaWdBytes
namespace Go.Proofs.Ytodjmfmenfncdaa
open Go.RowKit

/-- byte i of a string -/
def byt (s : ByteArray) (i : Nat) : Nat := (s.data.toList.getD i 0).toNat
theorem byt_lt (s : ByteArray) (i : Nat) : byt s i < 256 := UInt8.toNat_lt _
theorem byt_get (s : ByteArray) (i : Nat) (h : i < s.size) : s[i].toNat = byt s i := by
  unfold byt
  have h' : i < s.data.toList.length := by simpa using h
  rw [List.getD, List.getElem?_eq_getElem h']
  rfl
/-- the word of the first k bytes -/
def wOfN (s : ByteArray) : Nat → Nat
  | 0 => 0
  | k + 1 => wOfN s k + byt s k * 256 ^ k
theorem wOfN_lt (s : ByteArray) : ∀ k, wOfN s k < 256 ^ k
  | 0 => by simp [wOfN]
  | k + 1 => by
    have h1 := wOfN_lt s k
    have h2 := byt_lt s k
    have h3 : byt s k * 256 ^ k ≤ 255 * 256 ^ k := Nat.mul_le_mul_right _ (by omega)
    rw [wOfN, Nat.pow_succ]
    omega
def wOf (s : ByteArray) : Nat := wOfN s (min s.size 8)
theorem wOf_lt (s : ByteArray) : wOf s < 18446744073709551616 := by
  have h := wOfN_lt s (min s.size 8)
  have : 256 ^ (min s.size 8) ≤ 256 ^ 8 := Nat.pow_le_pow_right (by omega) (by omega)
  unfold wOf
  omega

theorem of_round (s : ByteArray) (k : Nat) (hk : k < s.size) (h8 : k < 8) :
    bits BinOp.or IntKind.u64 ((wOfN s k : Nat) : Int) (IntKind.u64.wrap (IntKind.u64.wrap (s[k].toNat : Int) * 2 ^ (8 * k))) = ((wOfN s (k + 1) : Nat) : Int) := by
  have hb := byt_lt s k
  have hlt := wOfN_lt s k
  have hp : 256 ^ k * 256 ≤ 18446744073709551616 := by
    have : 256 ^ (k + 1) ≤ 256 ^ 8 := Nat.pow_le_pow_right (by omega) (by omega)
    rw [Nat.pow_succ] at this
    omega
  have h3 : byt s k * 256 ^ k ≤ 255 * 256 ^ k := Nat.mul_le_mul_right _ (by omega)
  have e1 : ((2 : Int) ^ (8 * k)) = ((256 ^ k : Nat) : Int) := by
    rw [Int.pow_mul]
    simp
  have hpos : 0 < 256 ^ k := Nat.pos_of_ne_zero (by simp)
  rw [byt_get s k hk, u64_wrap_lt _ (by omega), e1, ← Int.natCast_mul, u64_wrap_lt _ (by omega), u64_or_nat _ _ (by omega) (by omega), Nat.or_comm]
  have e2 := nat_join (8 * k) (byt s k * 256 ^ k) (wOfN s k) (by rw [Nat.pow_mul]; exact Nat.mul_mod_left _ _) (by rw [Nat.pow_mul]; exact hlt)
  rw [e2, wOfN, Nat.add_comm]

set_option maxHeartbeats 800000 in
theorem word_of_le (w : World) (s : ByteArray) (hs : s.size ≤ 8) :
    Calls Try.prog 71 #[.string s] w fun e w' => e = .returned (.int .u64 (wOf s : Nat)) ∧ w = w' := by
  go_enter Try.func71, Try.ntmps71
  go_wp2_with fail
  go_loop [3, 8] (fun x i => ∃ k : Nat, k ≤ s.size ∧ Hid (x = .int .u64 ((wOfN s k : Nat) : Int)) ∧ i = .int .i64 k) (fun _ i => s.size - (intOf i).toNat)
  case atStart => exact ⟨0, Nat.zero_le _, rfl, rfl⟩
  case round =>
    obtain ⟨k, hk, hx, rfl⟩ := hrel
    obtain rfl := hx.out
    clear hx
    have lt0 : k < s.size ∨ k = s.size := by omega
    rcases lt0 with hlt | hlt
    · have hks : k < s.size := by omega
      have F := Lib.hid (of_round s k hks (by omega))
      generalize wOfN s k = y at *
      go_wp2_with fail
      exact ⟨⟨k + 1, by omega, congrArg (Value.int IntKind.u64) F.out, by go_num⟩, by simp [intOf]; omega⟩
    · have hlt3 : ¬ k < s.size := by omega
      have HK := Lib.hid hlt
      have F : wOfN s k = wOf s := by
        unfold wOf
        congr 1
        omega
      have HF := Lib.hid F
      clear hlt F
      generalize wOfN s k = y at *
      go_wp2_with fail
      go_ret
      exact ⟨ret_int (by rw [HF.out]), rfl⟩

set_option maxHeartbeats 800000 in
theorem word_of_gt (w : World) (s : ByteArray) (hs : 8 < s.size) (hm : s.size ≤ maxLen) :
    Calls Try.prog 71 #[.string s] w fun e w' => e = .returned (.int .u64 (wOf s : Nat)) ∧ w = w' := by
  unfold maxLen at hm
  go_enter Try.func71, Try.ntmps71
  go_wp2_with fail
  go_loop [3, 8] (fun x i => ∃ k : Nat, k ≤ 8 ∧ Hid (x = .int .u64 ((wOfN s k : Nat) : Int)) ∧ i = .int .i64 k) (fun _ i => 8 - (intOf i).toNat)
  case atStart => exact ⟨0, Nat.zero_le _, rfl, rfl⟩
  case round =>
    obtain ⟨k, hk, hx, rfl⟩ := hrel
    obtain rfl := hx.out
    clear hx
    have lt0 : k < 8 ∨ k = 8 := by omega
    rcases lt0 with hlt | hlt
    · have hks : k < s.size := by omega
      have F := Lib.hid (of_round s k hks (by omega))
      generalize wOfN s k = y at *
      go_wp2_with fail
      exact ⟨⟨k + 1, by omega, congrArg (Value.int IntKind.u64) F.out, by go_num⟩, by simp [intOf]; omega⟩
    · have hlt3 : ¬ k < 8 := by omega
      have HK := Lib.hid hlt
      have F : wOfN s k = wOf s := by
        unfold wOf
        congr 1
        omega
      have HF := Lib.hid F
      clear hlt F
      generalize wOfN s k = y at *
      go_wp2_with fail
      go_ret
      exact ⟨ret_int (by rw [HF.out]), rfl⟩

theorem word_of (w : World) (s : ByteArray) (hm : s.size ≤ maxLen) :
    Calls Try.prog 71 #[.string s] w fun e w' => e = .returned (.int .u64 (wOf s : Nat)) ∧ w = w' := by
  by_cases h : s.size ≤ 8
  · exact word_of_le w s h
  · exact word_of_gt w s (by omega) hm
end Go.Proofs.Ytodjmfmenfncdaa
