/-
  The document's Bytes and Of by their contracts.
-/
import Derived.Test.YtodjmfmenfncdaaWdOf
namespace Go.Proofs.Ytodjmfmenfncdaa
open Go.RowKit

theorem strOfNums_append (xs ys : List Int) : strOfNums (xs ++ ys) = strOfNums xs ++ strOfNums ys := by
  apply ByteArray.ext
  simp [strOfNums, ByteArray.data_append]

theorem conv_one (W : World) (x : Int) : (convert 51 9 (.slice (some ⟨W.heap.size, 0, none⟩) 1 1)).run Try.prog (W.alloc (.cells #[.int .u8 x] 5)) = .ok (.string (strOfNums [x])) (W.alloc (.cells #[.int .u8 x] 5)) := by
  refine run_convert_bytes_arg _ 51 5 Try.underlying51 Try.underlying5 W.heap.size 0 1 1 [x] rfl (fun i hi => ?_) 9 Try.underlying9
  obtain rfl : i = 0 := by omega
  exact cell_one_new _ _ _ 0 _ rfl

theorem add_byte (W : World) (v k y : Nat) (hk : k ≤ 8) (hy : y = v / 256 ^ k) : (Op.stringOp .add (strOfNums (wBy v k)) (strOfNums [(y : Int) % 256])).run Try.prog W = .ok (.string (strOfNums (wBy v (k + 1)))) W := by
  rw [run_string_add_sum W _ _ (by rw [strOfNums_size, strOfNums_size, wBy_len]; simp; omega), wBy_snoc, strOfNums_append, hy]
  simp

def RByAt (w : World) (v k x : Nat) (wr : World) : Prop := x = v / 256 ^ k ∧ Chg (fun _ => False) w wr

set_option maxHeartbeats 800000 in
theorem ref_bytes (w : World) (v : Nat) (hv : v < 18446744073709551616) (n : Int) :
    Calls Try.prog 70 #[.int .u64 v, .int .i64 n] w fun e w' => e = .returned (.string (wBytes v n)) ∧ Chg (fun _ => False) w w' := by
  unfold wBytes
  obtain ⟨N, hN⟩ : ∃ N, N = wCount n := ⟨_, rfl⟩
  rw [← hN]
  have hN2 : N ≤ 8 ∧ ∀ k : Nat, k ≤ N → (((k : Int) < n ∧ k < 8) ↔ k < N) := by
    unfold wCount at hN
    refine ⟨by omega, fun k hk => by omega⟩
  have HV := Lib.hid (show v ≤ 18446744073709551615 by omega)
  clear hv hN
  obtain ⟨h8, hN3⟩ := hN2
  have HN3 := Lib.hid hN3
  clear hN3
  go_enter Try.func70, Try.ntmps70
  go_wp2_with fail
  go_loopw [0, 5, 6] (fun x sv i wr => ∃ k y : Nat, k ≤ N ∧ y ≤ 18446744073709551615 ∧ x = .int .u64 (y : Int) ∧ Hid (sv = .string (strOfNums (wBy v k))) ∧ i = .int .i64 k ∧ Hid (RByAt w v k y wr)) (fun _ _ i _ => N - (intOf i).toNat)
  case atStart => exact ⟨0, v, Nat.zero_le _, HV.out, rfl, rfl, rfl, by simp, Chg.refl _ _⟩
  case round =>
    obtain ⟨k, y, hk, hy, rfl, hsv, rfl, HB⟩ := hrel
    obtain rfl := hsv.out
    clear hsv
    have lt0 : k < N ∨ k = N := by omega
    rcases lt0 with hlt | hlt
    · have t := (HN3.out k hk).mpr hlt
      have t1 : decide ((k : Int) < n) = true := decide_eq_true t.1
      have t2 : k < 8 := t.2
      clear t
      have hyw : IntKind.u8.wrap ((y : Int) % 256) = (y : Int) % 256 := by simp [IntKind.wrap, IntKind.bits, IntKind.signed]
      have hyq : IntKind.u64.wrap ((y : Int) / 256) = (y : Int) / 256 := by rw [u64_wrap]; omega
      have hcv := fun W => conv_one W ((y : Int) % 256)
      have had := fun W => add_byte W v k y (by omega) HB.out.1
      have HC := Lib.hid HB.out.2
      have hx : y / 256 = v / 256 ^ (k + 1) := by rw [HB.out.1, Nat.pow_succ, Nat.div_div_eq_div_mul]
      have HX := Lib.hid hx; clear hx HB
      generalize hs2 : strOfNums (wBy v (k + 1)) = s2 at *
      have HS := Lib.hid hs2; clear hs2
      generalize strOfNums (wBy v k) = s1 at *
      go_wp2_with fail
      go_roundw
      case rel => exact ⟨k + 1, y / 256, by omega, by omega, by go_num, Lib.hid (congrArg Value.string HS.out.symm), by go_num, HX.out, HC.out.alloc _⟩
      case measure => simp [intOf]; omega
    · subst hlt
      have HC := Lib.hid HB.out.2
      have t := HN3.out k (by omega)
      clear HB
      generalize hs2 : strOfNums (wBy v k) = s2 at *
      have HS := Lib.hid hs2; clear hs2
      by_cases t1 : (k : Int) < n
      · have t3 : ¬ k < 8 := by omega
        have t2 : decide ((k : Int) < n) = true := decide_eq_true t1
        clear t1 t
        go_wp2_with fail
        go_ret
        exact ⟨ret_str HS.out.symm, HC.out⟩
      · have t2 : decide ((k : Int) < n) = false := decide_eq_false t1
        clear t
        go_wp2_with fail
        go_ret
        exact ⟨ret_str HS.out.symm, HC.out⟩

theorem of_down (s : ByteArray) (N k v : Nat) (_hk : k < N) (h : wOfN s N = wOfN s (k + 1) + v * 256 ^ (k + 1)) : wOfN s N = wOfN s k + (v * 256 + byt s k) * 256 ^ k := by
  rw [h, wOfN, Nat.pow_succ, Nat.add_mul, Nat.mul_assoc v 256, Nat.mul_comm 256 (256 ^ k)]
  omega

def ROf (s : ByteArray) (N k v : Nat) : Prop := wOfN s N = wOfN s k + v * 256 ^ k ∧ v < 256 ^ (N - k)

theorem ROf.next {s : ByteArray} {N k v : Nat} (h : ROf s N (k + 1) v) (hk : k < N) : ROf s N k (v * 256 + byt s k) := by
  refine ⟨of_down s N k v hk h.1, ?_⟩
  have hb := byt_lt s k
  have h2 := h.2
  rw [show N - k = N - (k + 1) + 1 from by omega, Nat.pow_succ]
  omega

/-- the loop's state -/
def RfI (s : ByteArray) (N : Nat) (x i : Value) : Prop :=
  (∃ k v : Nat, x = .int .u64 (v : Int) ∧ i = .int .i64 (k : Int) ∧ k < N ∧ ROf s N (k + 1) v) ∨ (x = .int .u64 ((wOfN s N : Nat) : Int) ∧ i = .int .i64 (-1))
theorem RfI.step {s : ByteArray} {N k v : Nat} {x i : Int} (h : ROf s N (k + 1) v) (hk : k < N) (hx : x = ((v * 256 + byt s k : Nat) : Int)) (hi : i = (k : Int) - 1) : RfI s N (.int .u64 x) (.int .i64 i) := by
  have h2 := h.next hk
  subst hx hi
  rcases k with _ | k
  · right
    refine ⟨?_, by simp⟩
    have := h2.1
    rw [Nat.pow_zero, Nat.mul_one, wOfN, Nat.zero_add] at this
    rw [this]
  · left
    exact ⟨k, _, rfl, by congr 1; omega, by omega, h2⟩
theorem RfI.start (s : ByteArray) (N : Nat) {i : Int} (hi : i = (N : Int) - 1) : RfI s N (.int .u64 0) (.int .i64 i) := by
  subst hi
  rcases N with _ | N
  · right
    exact ⟨rfl, by simp⟩
  · left
    exact ⟨N, 0, rfl, by congr 1; omega, by omega, by simp [ROf]⟩
theorem rof_lt {s : ByteArray} {N k v : Nat} (h : ROf s N (k + 1) v) (h8 : N ≤ 8) (hk : k < N) : v < 72057594037927936 := by
  have : 256 ^ (N - (k + 1)) ≤ 256 ^ 7 := Nat.pow_le_pow_right (by omega) (by omega)
  have := h.2
  omega

set_option maxHeartbeats 800000 in
theorem ref_of (w : World) (s : ByteArray) (hm : s.size ≤ maxLen) :
    Calls Try.prog 80 #[.string s] w fun e w' => e = .returned (.int .u64 (wOf s : Nat)) ∧ w = w' := by
  unfold maxLen at hm
  unfold wOf
  rcases (show s.size ≤ 8 ∨ 8 < s.size by omega) with c1 | c1
  all_goals
    first
    | rw [Nat.min_eq_left c1]
    | rw [Nat.min_eq_right (by omega)]
    go_enter Try.func80, Try.ntmps80
    go_wp2_with fail
    first
    | (have c2 : 8 < s.size := c1
       go_loop [3, 5] (fun x i => Hid (RfI s 8 x i)) (fun _ i => (intOf i + 1).toNat)
       case atStart => exact RfI.start s 8 (by rfl))
    | (go_loop [3, 5] (fun x i => Hid (RfI s s.size x i)) (fun _ i => (intOf i + 1).toNat)
       case atStart => exact RfI.start s s.size (by rfl))
    rcases hrel.out with ⟨k, v, rfl, rfl, hk, hr⟩ | ⟨rfl, rfl⟩
    · have hks : k < s.size := by omega
      have hv := rof_lt hr (by omega) hk
      have hb := byt_lt s k
      have F : IntKind.u64.wrap ((v : Int) * 256) = (v : Int) * 256 := by rw [u64_wrap]; omega
      have F2 : IntKind.u64.wrap ((s[k].toNat : Int)) = ((byt s k : Nat) : Int) := by rw [byt_get s k hks, u64_wrap]; omega
      have F3 : IntKind.u64.wrap ((v : Int) * 256 + ((byt s k : Nat) : Int)) = (v : Int) * 256 + ((byt s k : Nat) : Int) := by rw [u64_wrap]; omega
      have HR := Lib.hid hr; have HB := Lib.hid hb; have HV := Lib.hid hv
      clear hr hb hv
      go_wp2_with fail
      exact ⟨RfI.step HR.out hk (by omega) (by first | rfl | omega), by simp [intOf]⟩
    · go_wp2_with fail
      go_ret
      exact ⟨rfl, rfl⟩
end Go.Proofs.Ytodjmfmenfncdaa
