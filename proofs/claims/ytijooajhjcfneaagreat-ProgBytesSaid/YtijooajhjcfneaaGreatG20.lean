/-
  Several texts in one: SpText, SpText2, RQText, SpBad.
-/
import Derived.Test.YtijooajhjcfneaaGreatG19
namespace Go.Proofs.YtijooajhjcfneaaGreat
open Go.RowKit

/-- behind j bytes, none of them a nought -/
def TxAt (V : Nat → Nat) (F root at_ j : Nat) (l : List UInt8) : Prop := ∃ ys, adrs V F root at_ 1 j = some ys ∧ l = inS V ys ∧ ∀ y ∈ ys, V y ≠ 0
/-- what a text is -/
def TextR (V : Nat → Nat) (F root at_ most : Nat) (s : ByteArray) (e : Int) : Prop :=
  ∃ j l, j ≤ most ∧ TxAt V F root at_ j l ∧
    ((tbAt V F root ((at_ + j) % 18446744073709551616) 1 = none ∧ s = ⟨#[]⟩ ∧ e = 3) ∨
     (∃ a, tbAt V F root ((at_ + j) % 18446744073709551616) 1 = some a ∧ V a = 0 ∧ s = ⟨l.toArray⟩ ∧ e = 0) ∨
     (∃ a, tbAt V F root ((at_ + j) % 18446744073709551616) 1 = some a ∧ V a ≠ 0 ∧ j = most ∧ s = ⟨#[]⟩ ∧ e = 15))
theorem TxAt.start (V : Nat → Nat) (F root at_ : Nat) : TxAt V F root at_ 0 [] := ⟨[], rfl, rfl, fun y h => by cases h⟩
theorem TxAt.len {V : Nat → Nat} {F root at_ j : Nat} {l : List UInt8} (h : TxAt V F root at_ j l) : l.length = j := by
  obtain ⟨ys, h1, h2, _⟩ := h
  rw [h2, inS_len, adrs_len j ys h1]
theorem TxAt.next {V : Nat → Nat} {F root at_ j a : Nat} {l : List UInt8} (h : TxAt V F root at_ j l) (ha : tbAt V F root ((at_ + j) % 18446744073709551616) 1 = some a) (hv : V a ≠ 0) : TxAt V F root at_ (j + 1) (l ++ (memStr V a 1).data.toList) := by
  obtain ⟨ys, h1, h2, h3⟩ := h
  refine ⟨ys ++ [a], adrs_step h1 ha, by rw [inS_next, h2], fun y hy => ?_⟩
  rcases List.mem_append.1 hy with hy | hy
  · exact h3 y hy
  · rw [List.mem_singleton.1 hy]; exact hv
theorem adrs_one (V : Nat → Nat) (F root X : Nat) (hX : X < 18446744073709551616) : adrs V F root X 1 1 = (tbAt V F root X 1).map fun a => [a] := by
  show (some ([] : List Nat)).bind (fun l => (tbAt V F root ((X + 0) % 18446744073709551616) 1).map fun a => l ++ [a]) = _
  rw [Option.bind_some, Nat.add_zero, Nat.mod_eq_of_lt hX]
  rfl
theorem inS_one (V : Nat → Nat) (a : Nat) : (⟨(inS V [a]).toArray⟩ : ByteArray) = memStr V a 1 := by
  have h : inS V [a] = (memStr V a 1).data.toList := by unfold inS; rw [List.flatMap_cons, List.flatMap_nil, List.append_nil]
  rw [h]
theorem memStr_nought {V : Nat → Nat} {a : Nat} (h : V a = 0) : memStr V a 1 = ⟨#[0]⟩ := by
  show strOfNums [((V (a + 0) : Nat) : Int)] = _
  rw [Nat.add_zero, h]
  rfl
theorem tl1 (x : UInt8) : (⟨#[x]⟩ : ByteArray).toList = [x] := by
  unfold ByteArray.toList
  rw [ByteArray.toList.loop, if_pos (by show 0 < 1; decide), ByteArray.toList.loop, if_neg (by show ¬ 1 < 1; decide)]
  rfl
theorem ne1 (x : UInt8) (h : x ≠ 0) : ((⟨#[x]⟩ : ByteArray).toList == [0]) = false := by
  rw [tl1]
  simp [h]
theorem memStr_not {V : Nat → Nat} {a : Nat} (hs : V a < 256) (h : V a ≠ 0) : ((memStr V a 1).toList == [0]) = false := by
  have e : memStr V a 1 = ⟨#[UInt8.ofNat (((V (a + 0) : Nat) : Int)).toNat]⟩ := rfl
  rw [e]
  refine ne1 _ fun e5 => ?_
  rw [Int.toNat_natCast, Nat.add_zero] at e5
  have e6 := congrArg UInt8.toNat e5
  rw [UInt8.toNat_ofNat_of_lt' (show V a < 256 from hs)] at e6
  exact h e6
set_option maxHeartbeats 1000000 in
theorem b_len {B b : Nat} {p v : Value} {bs : List Value} {w : World} (h : BK B b p v bs w) :
    Calls Tryz.prog 78 #[.pointer (some ⟨b, 0, none⟩)] w fun e w' => e = .returned (.int .i64 bs.length) ∧ w = w' := by
  obtain ⟨ao, cap, hv⟩ : ∃ ao cap, v = .slice ao bs.length cap := by
    rcases h.own.2 with ⟨hv, h0⟩ | ⟨g, cap, cur, hv, _⟩
    · exact ⟨none, 0, by rw [hv, h0]⟩
    · exact ⟨_, _, hv⟩
  have c1 := h.cell1
  rw [hv] at c1
  clear h hv
  go_enter Tryz.func78, Tryz.ntmps78
  go_wp2_with fail
  go_ret
  exact ⟨rfl, rfl⟩
/-- the next byte -/
theorem in_one {V : Nat → Nat} {F root X : Nat} (hX : X < 18446744073709551616) : (tbAt V F root X 1 = none → inR V (adrs V F root X 1 1) = .tuple #[.string ⟨#[]⟩, .int .i64 3]) ∧ (∀ a, tbAt V F root X 1 = some a → inR V (adrs V F root X 1 1) = .tuple #[.string (memStr V a 1), .int .i64 0]) := by
  rw [adrs_one V F root X hX]
  refine ⟨fun h => by rw [h]; rfl, fun a h => ?_⟩
  rw [h, ← inS_one]
  rfl
theorem tx_num (j : Nat) (h : j < 5000) : IntKind.u64.wrap ((j : Int) + 1) = ((j + 1 : Nat) : Int) ∧ ((j : Int) + 1 = ((j + 1 : Nat) : Int)) := by
  refine ⟨?_, by omega⟩
  rw [u64_wrap]; omega
end Go.Proofs.YtijooajhjcfneaaGreat

namespace Go.Proofs.YtijooajhjcfneaaGreat
open Go.RowKit

theorem Pl.small9 {S : Nat → Prop} {w : World} {q p F first : Nat} {Fr : Nat → Bool} {V : Nat → Nat} (h : Pl S w q p F first Fr V) : ∀ i, V i < 256 := by
  obtain ⟨S', _, hy, _⟩ := h.Y
  exact hy.small
theorem modlt (a : Nat) : a % 18446744073709551616 < 18446744073709551616 := Nat.mod_lt _ (by decide)
end Go.Proofs.YtijooajhjcfneaaGreat

namespace Go.Proofs.YtijooajhjcfneaaGreat
open Go.RowKit

def sizeV (v : Value) : Nat := match v with
  | .string s => s.size
  | _ => 0
theorem str_size (l : List UInt8) : (⟨l.toArray⟩ : ByteArray).size = l.length := by simp [ByteArray.size]
theorem str_add (l : List UInt8) (s : ByteArray) : (⟨l.toArray⟩ : ByteArray) ++ s = ⟨(l ++ s.data.toList).toArray⟩ := by
  apply ByteArray.ext
  simp [ByteArray.data_append]
theorem add_str (W : World) (l : List UInt8) (s : ByteArray) (h : l.length ≤ 5000) (hs : s.size = 1) : (Op.stringOp .add (⟨l.toArray⟩ : ByteArray) s).run Tryz.prog W = .ok (.string ⟨(l ++ s.data.toList).toArray⟩) W := by
  rw [run_string_add_sum W _ _ (by rw [str_size, hs]; omega), str_add]
end Go.Proofs.YtijooajhjcfneaaGreat

namespace Go.Proofs.YtijooajhjcfneaaGreat
open Go.RowKit

theorem sp_in_root {S : Nat → Prop} {w : World} {q p F : Nat} {Fr : Nat → Bool} {V : Nat → Nat} (h : Pl S w q p F 0 Fr V) (hF : F ≤ 256) (root at_ n : Int) (ht : (decide (((0 : Nat) : Int) ≤ root ∧ root < (F : Int)) && !Fr root.toNat) = false) :
    Calls Tryz.prog 19 #[.pointer (some ⟨q, 0, none⟩), .int .i64 root, .int .u64 at_, .int .i64 n] w (StepF S w q p F 0 Fr V (.tuple #[.string ⟨#[]⟩, .int .i64 1])) := by
  have HT := sp_taken h hF root
  rw [ht] at HT
  have HT := Lib.hid HT
  clear h hF ht
  go_enter Tryz.func19, Tryz.ntmps19
  go_wp2_with fail
  refine HT.out.mono ?_
  rintro e w1 ⟨rfl, m1, c1⟩
  have M1 := Lib.hid (And.intro m1 c1); clear m1 c1
  go_wp2_with fail
  go_ret2
  exact ⟨rfl, M1.out⟩

theorem sp_in_neg {S : Nat → Prop} {w : World} {q p F : Nat} {Fr : Nat → Bool} {V : Nat → Nat} (h : Pl S w q p F 0 Fr V) (hF : F ≤ 256) (root at_ n : Int) (ht : (decide (((0 : Nat) : Int) ≤ root ∧ root < (F : Int)) && !Fr root.toNat) = true) (hn : n < 0) :
    Calls Tryz.prog 19 #[.pointer (some ⟨q, 0, none⟩), .int .i64 root, .int .u64 at_, .int .i64 n] w (StepF S w q p F 0 Fr V (.tuple #[.string ⟨#[]⟩, .int .i64 1])) := by
  have HT := sp_taken h hF root
  rw [ht] at HT
  have d1 : decide (n < (0 : Int)) = true := decide_eq_true hn
  have HT := Lib.hid HT
  clear h hF ht
  go_enter Tryz.func19, Tryz.ntmps19
  go_wp2_with fail
  refine HT.out.mono ?_
  rintro e w1 ⟨rfl, m1, c1⟩
  have M1 := Lib.hid (And.intro m1 c1); clear m1 c1
  go_wp2_with fail
  go_ret2
  exact ⟨rfl, M1.out⟩

theorem sp_in_big {S : Nat → Prop} {w : World} {q p F : Nat} {Fr : Nat → Bool} {V : Nat → Nat} (h : Pl S w q p F 0 Fr V) (hF : F ≤ 256) (root at_ n : Int) (ht : (decide (((0 : Nat) : Int) ≤ root ∧ root < (F : Int)) && !Fr root.toNat) = true) (hn : 4096 < n) :
    Calls Tryz.prog 19 #[.pointer (some ⟨q, 0, none⟩), .int .i64 root, .int .u64 at_, .int .i64 n] w (StepF S w q p F 0 Fr V (.tuple #[.string ⟨#[]⟩, .int .i64 1])) := by
  have HT := sp_taken h hF root
  rw [ht] at HT
  have d1 : decide (n < (0 : Int)) = false := decide_eq_false (by omega)
  have d2 : decide ((4096 : Int) < n) = true := decide_eq_true hn
  have HT := Lib.hid HT
  clear h hF ht
  go_enter Tryz.func19, Tryz.ntmps19
  go_wp2_with fail
  refine HT.out.mono ?_
  rintro e w1 ⟨rfl, m1, c1⟩
  have M1 := Lib.hid (And.intro m1 c1); clear m1 c1
  go_wp2_with fail
  go_ret2
  exact ⟨rfl, M1.out⟩

end Go.Proofs.YtijooajhjcfneaaGreat
