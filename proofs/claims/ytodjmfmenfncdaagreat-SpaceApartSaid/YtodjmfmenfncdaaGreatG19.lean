/-
  Several texts in one: SpText, SpText2, RQText, SpBad.
-/
import Derived.Test.YtodjmfmenfncdaaGreatG18
namespace Go.Proofs.YtodjmfmenfncdaaGreat
open Go.RowKit

/-- behind j bytes, none of them a nought -/
def TxAt (V : Nat → Nat) (F root at_ j : Nat) (l : List UInt8) : Prop := ∃ ys, adrs V F root at_ 1 j = some ys ∧ l = inS V ys ∧ ∀ y ∈ ys, V y ≠ 0
/-- what a text is -/
def TextR (V : Nat → Nat) (F root at_ most : Nat) (s : ByteArray) (e : Int) : Prop :=
  ∃ j l, j ≤ most ∧ TxAt V F root at_ j l ∧
    ((tbAt V F root ((at_ + j) % 18446744073709551616) 1 = none ∧ s = ⟨#[]⟩ ∧ e = 3) ∨
     (∃ a, tbAt V F root ((at_ + j) % 18446744073709551616) 1 = some a ∧ V a = 0 ∧ s = ⟨l.toArray⟩ ∧ e = 0) ∨
     (∃ a, tbAt V F root ((at_ + j) % 18446744073709551616) 1 = some a ∧ V a ≠ 0 ∧ j = most ∧ s = ⟨#[]⟩ ∧ e = 15))
theorem TxAt.start (V : Nat → Nat) (F root at_ : Nat) : TxAt V F root at_ 0 [] := ⟨[], rfl, rfl, fun y h => by cases h⟩
theorem TxAt.len {V : Nat → Nat} {F root at_ j : Nat} {l : List UInt8} (h : TxAt V F root at_ j l) : l.length = j := by
  obtain ⟨ys, h1, h2, _⟩ := h
  rw [h2, inS_len, adrs_len j ys h1]
theorem TxAt.next {V : Nat → Nat} {F root at_ j a : Nat} {l : List UInt8} (h : TxAt V F root at_ j l) (ha : tbAt V F root ((at_ + j) % 18446744073709551616) 1 = some a) (hv : V a ≠ 0) : TxAt V F root at_ (j + 1) (l ++ (memStr V a 1).data.toList) := by
  obtain ⟨ys, h1, h2, h3⟩ := h
  refine ⟨ys ++ [a], adrs_step h1 ha, by rw [inS_next, h2], fun y hy => ?_⟩
  rcases List.mem_append.1 hy with hy | hy
  · exact h3 y hy
  · rw [List.mem_singleton.1 hy]; exact hv
theorem adrs_one (V : Nat → Nat) (F root X : Nat) (hX : X < 18446744073709551616) : adrs V F root X 1 1 = (tbAt V F root X 1).map fun a => [a] := by
  show (some ([] : List Nat)).bind (fun l => (tbAt V F root ((X + 0) % 18446744073709551616) 1).map fun a => l ++ [a]) = _
  rw [Option.bind_some, Nat.add_zero, Nat.mod_eq_of_lt hX]
  rfl
theorem inS_one (V : Nat → Nat) (a : Nat) : (⟨(inS V [a]).toArray⟩ : ByteArray) = memStr V a 1 := by
  have h : inS V [a] = (memStr V a 1).data.toList := by unfold inS; rw [List.flatMap_cons, List.flatMap_nil, List.append_nil]
  rw [h]
theorem memStr_nought {V : Nat → Nat} {a : Nat} (h : V a = 0) : memStr V a 1 = ⟨#[0]⟩ := by
  show strOfNums [((V (a + 0) : Nat) : Int)] = _
  rw [Nat.add_zero, h]
  rfl
theorem tl1 (x : UInt8) : (⟨#[x]⟩ : ByteArray).toList = [x] := by
  unfold ByteArray.toList
  rw [ByteArray.toList.loop, if_pos (by show 0 < 1; decide), ByteArray.toList.loop, if_neg (by show ¬ 1 < 1; decide)]
  rfl
theorem ne1 (x : UInt8) (h : x ≠ 0) : ((⟨#[x]⟩ : ByteArray).toList == [0]) = false := by
  rw [tl1]
  simp [h]
theorem memStr_not {V : Nat → Nat} {a : Nat} (hs : V a < 256) (h : V a ≠ 0) : ((memStr V a 1).toList == [0]) = false := by
  have e : memStr V a 1 = ⟨#[UInt8.ofNat (((V (a + 0) : Nat) : Int)).toNat]⟩ := rfl
  rw [e]
  refine ne1 _ fun e5 => ?_
  rw [Int.toNat_natCast, Nat.add_zero] at e5
  have e6 := congrArg UInt8.toNat e5
  rw [UInt8.toNat_ofNat_of_lt' (show V a < 256 from hs)] at e6
  exact h e6
set_option maxHeartbeats 1000000 in
theorem b_len {B b : Nat} {p v : Value} {bs : List Value} {w : World} (h : BK B b p v bs w) :
    Calls Tryz.prog 34 #[.pointer (some ⟨b, 0, none⟩)] w fun e w' => e = .returned (.int .i64 bs.length) ∧ w = w' := by
  obtain ⟨ao, cap, hv⟩ : ∃ ao cap, v = .slice ao bs.length cap := by
    rcases h.own.2 with ⟨hv, h0⟩ | ⟨g, cap, cur, hv, _⟩
    · exact ⟨none, 0, by rw [hv, h0]⟩
    · exact ⟨_, _, hv⟩
  have c1 := h.cell1
  rw [hv] at c1
  clear h hv
  go_enter Tryz.func34, Tryz.ntmps34
  go_wp2_with fail
  go_ret
  exact ⟨rfl, rfl⟩
/-- the next byte -/
theorem in_one {V : Nat → Nat} {F root X : Nat} (hX : X < 18446744073709551616) : (tbAt V F root X 1 = none → inR V (adrs V F root X 1 1) = .tuple #[.string ⟨#[]⟩, .int .i64 3]) ∧ (∀ a, tbAt V F root X 1 = some a → inR V (adrs V F root X 1 1) = .tuple #[.string (memStr V a 1), .int .i64 0]) := by
  rw [adrs_one V F root X hX]
  refine ⟨fun h => by rw [h]; rfl, fun a h => ?_⟩
  rw [h, ← inS_one]
  rfl
theorem tx_num (j : Nat) (h : j < 5000) : IntKind.u64.wrap ((j : Int) + 1) = ((j + 1 : Nat) : Int) ∧ ((j : Int) + 1 = ((j + 1 : Nat) : Int)) := by
  refine ⟨?_, by omega⟩
  rw [u64_wrap]; omega
end Go.Proofs.YtodjmfmenfncdaaGreat

namespace Go.Proofs.YtodjmfmenfncdaaGreat
open Go.RowKit

theorem Pl.small9 {S : Nat → Prop} {w : World} {q p F first : Nat} {Fr : Nat → Bool} {V : Nat → Nat} (h : Pl S w q p F first Fr V) : ∀ i, V i < 256 := by
  obtain ⟨S', _, hy, _⟩ := h.Y
  exact hy.small
theorem modlt (a : Nat) : a % 18446744073709551616 < 18446744073709551616 := Nat.mod_lt _ (by decide)
set_option maxRecDepth 100000 in
set_option maxHeartbeats 1600000 in
theorem sp_text {S : Nat → Prop} {w : World} {q p F : Nat} {Fr : Nat → Bool} {V : Nat → Nat} {R : Roles} (h : Pl S w q p F 0 Fr V) (hF : F ≤ 256) (hW : WF F Fr V R) (root : Nat) (hr : R root = some (root, 3, 0)) (at_ m : Nat) (hm : m ≤ 4096) :
    Calls Tryz.prog 9 #[.pointer (some ⟨q, 0, none⟩), .int .i64 root, .int .u64 at_, .int .i64 m] w fun e w' => ∃ s c, TextR V F root at_ m s c ∧ StepF S w q p F 0 Fr V (.tuple #[.string s, .int .i64 c]) e w' := by
  have HT := sp_taken h hF root
  rw [hW.taken hr] at HT
  have hsm := h.small9
  have KI := fun (W : World) (S' : Nat → Prop) (x : Nat) (H : Pl S' W q p F 0 Fr V) => sp_in H hF hW root hr x 1 (by omega)
  rw [show ((1 : Nat) : Int) = 1 from rfl] at KI
  have d1 : decide ((4096 : Int) < (m : Int)) = false := decide_eq_false (by omega)
  have d2 : ¬ 4096 < m := by omega
  have d3 : decide ((m : Int) < (0 : Int)) = false := decide_eq_false (by omega)
  have HT := Lib.hid HT; have KI := Lib.hid KI; have HSM := Lib.hid hsm
  have HN := Lib.hid hm
  clear h hF hW hr hm hsm
  go_enter Tryz.func9, Tryz.ntmps9
  go_wp2_with fail
  refine HT.out.mono ?_
  rintro e w1 ⟨rfl, m1, c1⟩
  have M1 := Lib.hid (BX.new m1); have C1 := Lib.hid c1; clear m1 c1
  go_wp2_with fail
  go_loopw [11] (fun i wr => ∃ pv v l j, j ≤ m ∧ i = .int .u64 (j : Nat) ∧ Hid (BX S w1 w1.heap.size q p F Fr V pv v l wr) ∧ Hid (TxAt V F root at_ j l)) (fun i _ => m + 1 - (intOf i).toNat)
  case atStart => exact ⟨_, _, [], 0, Nat.zero_le _, rfl, M1, Lib.hid (TxAt.start V F root at_)⟩
  case round =>
    obtain ⟨pv, v, l, j, hj, rfl, HA, HO⟩ := hrel
    have hm := HN.out
    obtain ⟨t1, t2⟩ := at_wrap at_ j (by omega)
    obtain ⟨X, hX⟩ : ∃ X, X = (at_ + j) % 18446744073709551616 := ⟨_, rfl⟩
    rw [← hX] at t2
    obtain ⟨i1, i2⟩ := in_one (V := V) (F := F) (root := root) (X := X) (by rw [hX]; exact modlt _)
    have KI1 := KI.out wr _ X HA.out.pl
    have HX := Lib.hid hX
    have hll := HO.out.len
    have n1 := (tx_num j (by omega)).1
    clear hX hm
    rcases opt_cases (tbAt V F root X 1) with ht | ⟨a, ht⟩
    · rw [i1 ht] at KI1
      have FIN := Lib.hid (show TextR V F root at_ m ⟨#[]⟩ 3 from ⟨j, l, hj, HO.out, .inl ⟨by rw [← HX.out]; exact ht, rfl, rfl⟩⟩)
      have KI1 := Lib.hid KI1
      clear ht i1 i2
      go_wp2_with fail
      refine KI1.out.mono ?_
      rintro e w3 ⟨rfl, m3, c3⟩
      have M3 := Lib.hid (HA.out.stepped ⟨rfl, m3, c3⟩ (r := .int .u64 0) (e := .returned (.int .u64 0))); clear m3 c3
      go_wp2_with (go_step3)
      try rw [Exit.noGoto_ret]
      go_ret2
      exact ⟨_, _, FIN.out, rfl, M3.out.pl.weak (fun k a => .inl a), C1.out.trans M3.out.chg⟩
    · rw [i2 a ht] at KI1
      by_cases hv : V a = 0
      · rw [memStr_nought hv] at KI1
        have FIN := Lib.hid (show TextR V F root at_ m ⟨l.toArray⟩ 0 from ⟨j, l, hj, HO.out, .inr (.inl ⟨a, by rw [← HX.out]; exact ht, hv, rfl, rfl⟩)⟩)
        have KI1 := Lib.hid KI1
        have KS := Lib.hid (fun (W : World) (H : BX S w1 w1.heap.size q p F Fr V pv v l W) => bx_string H)
        clear ht i1 i2 hv
        go_wp2_with fail
        refine KI1.out.mono ?_
        rintro e w3 ⟨rfl, m3, c3⟩
        have M3 := Lib.hid (HA.out.stepped ⟨rfl, m3, c3⟩ (r := .int .u64 0) (e := .returned (.int .u64 0))); clear m3 c3
        go_wp2_with (go_step3)
        refine (KS.out _ M3.out).mono ?_
        rintro e w5 ⟨rfl, m5, c5⟩
        have M5 := Lib.hid (And.intro m5 c5); clear m5 c5
        go_wp2_with fail
        try rw [Exit.noGoto_ret]
        go_ret2
        exact ⟨_, _, FIN.out, rfl, M5.out.1, C1.out.trans M5.out.2⟩
      · have hne := memStr_not (HSM.out a) hv
        have NX := Lib.hid (HO.out.next (by rw [← HX.out]; exact ht) hv)
        have hsz := memStr_size V a 1
        have HV := Lib.hid (And.intro ht hv)
        generalize memStr V a 1 = s1 at *
        have KL := Lib.hid (fun (W : World) (H : BX S w1 w1.heap.size q p F Fr V pv v l W) => b_len H.bk)
        have KB := Lib.hid (fun (W : World) (H : BX S w1 w1.heap.size q p F Fr V pv v l W) => bx_write H s1 (by omega) (by rw [hll, hsz]; have := HN.out; omega))
        have HLL := Lib.hid (show (Lib.byteCells l).length = j from by rw [Lib.byteCells_length]; exact hll)
        have KI1 := Lib.hid KI1
        clear ht i1 i2 hv hsz hll
        by_cases hjm : j = m
        · have FIN := Lib.hid (show TextR V F root at_ m ⟨#[]⟩ 15 from ⟨j, l, hj, HO.out, .inr (.inr ⟨a, by rw [← HX.out]; exact HV.out.1, HV.out.2, hjm, rfl, rfl⟩)⟩)
          subst hjm
          have f1 : ((j : Int) == (j : Int)) = true := by simp
          go_wp2_with fail
          refine KI1.out.mono ?_
          rintro e w3 ⟨rfl, m3, c3⟩
          have M3 := Lib.hid (HA.out.stepped ⟨rfl, m3, c3⟩ (r := .int .u64 0) (e := .returned (.int .u64 0))); clear m3 c3
          go_wp2_with (go_step3)
          refine (KL.out _ M3.out).mono ?_
          rw [HLL.out]
          rintro e w' ⟨rfl, rfl⟩
          go_wp2_with fail
          try rw [Exit.noGoto_ret]
          go_ret2
          exact ⟨_, _, FIN.out, rfl, M3.out.pl.weak (fun k a => .inl a), C1.out.trans M3.out.chg⟩
        · have f1 : ((j : Int) == (m : Int)) = false := by simp; omega
          have f2 : ¬ j = m := hjm
          have hj1 : j + 1 ≤ m := by omega
          go_wp2_with fail
          refine KI1.out.mono ?_
          rintro e w3 ⟨rfl, m3, c3⟩
          have M3 := Lib.hid (HA.out.stepped ⟨rfl, m3, c3⟩ (r := .int .u64 0) (e := .returned (.int .u64 0))); clear m3 c3
          go_wp2_with (go_step3)
          refine (KL.out _ M3.out).mono ?_
          rw [HLL.out]
          rintro e w' ⟨rfl, rfl⟩
          go_wp2_with (go_step3)
          refine (KB.out _ M3.out).mono ?_
          rintro e w5 ⟨rfl, v5, m5⟩
          have M5 := Lib.hid m5; clear m5 t1 t2
          go_wp2_with fail
          go_roundw
          case rel => exact ⟨_, _, _, j + 1, hj1, by go_num, M5, NX⟩
          case measure => simp [intOf]; omega
end Go.Proofs.YtodjmfmenfncdaaGreat

namespace Go.Proofs.YtodjmfmenfncdaaGreat
open Go.RowKit

def sizeV (v : Value) : Nat := match v with
  | .string s => s.size
  | _ => 0
theorem str_size (l : List UInt8) : (⟨l.toArray⟩ : ByteArray).size = l.length := by simp [ByteArray.size]
theorem str_add (l : List UInt8) (s : ByteArray) : (⟨l.toArray⟩ : ByteArray) ++ s = ⟨(l ++ s.data.toList).toArray⟩ := by
  apply ByteArray.ext
  simp [ByteArray.data_append]
theorem add_str (W : World) (l : List UInt8) (s : ByteArray) (h : l.length ≤ 5000) (hs : s.size = 1) : (Op.stringOp .add (⟨l.toArray⟩ : ByteArray) s).run Tryz.prog W = .ok (.string ⟨(l ++ s.data.toList).toArray⟩) W := by
  rw [run_string_add_sum W _ _ (by rw [str_size, hs]; omega), str_add]
set_option maxRecDepth 100000 in
set_option maxHeartbeats 1600000 in
theorem q_text {S : Nat → Prop} {w : World} {rq r F : Nat} {Fr : Nat → Bool} {V : Nat → Nat} {R : Roles} (h : RQ S w rq r F Fr V) (hF : F ≤ 256) (hW : WF F Fr V R) (root : Nat) (hr : R root = some (root, 3, 0)) (at_ m : Nat) (hm : m ≤ 4096) :
    Calls Tryz.prog 68 #[.pointer (some ⟨rq, 0, none⟩), .int .i64 root, .int .u64 at_, .int .i64 m] w fun e w' => ∃ s c, TextR V F root at_ m s c ∧ StepQ S w rq r F Fr V (.tuple #[.string s, .int .i64 c]) e w' := by
  have HT := q_taken h hF root
  rw [hW.taken hr] at HT
  have hsm := h.small
  have KI := fun (W : World) (x : Nat) (H : RQ S W rq r F Fr V) => q_in H hF hW root hr x 1 (by omega)
  rw [show ((1 : Nat) : Int) = 1 from rfl] at KI
  have d1 : decide ((4096 : Int) < (m : Int)) = false := decide_eq_false (by omega)
  have d2 : ¬ 4096 < m := by omega
  have d3 : decide ((m : Int) < (0 : Int)) = false := decide_eq_false (by omega)
  have HT := Lib.hid HT; have KI := Lib.hid KI; have HSM := Lib.hid hsm
  have HN := Lib.hid hm
  have M1 := Lib.hid (show RQ S w rq r F Fr V ∧ Chg (fun k => ¬ S k) w w from ⟨h, Chg.refl _ _⟩)
  clear h hF hW hr hm hsm
  go_enter Tryz.func68, Tryz.ntmps68
  go_wp2_with fail
  refine HT.out.mono ?_
  rintro e w1 ⟨rfl, rfl⟩
  go_wp2_with fail
  go_loopw [11] (fun xs wr => ∃ (l : List UInt8) (j : Nat), j ≤ m ∧ xs = .string ⟨l.toArray⟩ ∧ Hid (RQ S wr rq r F Fr V ∧ Chg (fun k => ¬ S k) w wr) ∧ Hid (TxAt V F root at_ j l)) (fun xs _ => m + 1 - sizeV xs)
  case atStart => exact ⟨[], 0, Nat.zero_le _, rfl, M1, Lib.hid (TxAt.start V F root at_)⟩
  case round =>
    obtain ⟨l, j, hj, rfl, HA, HO⟩ := hrel
    have hm := HN.out
    have hll := HO.out.len
    obtain ⟨t1, t2⟩ := at_wrap at_ j (by omega)
    obtain ⟨X, hX⟩ : ∃ X, X = (at_ + j) % 18446744073709551616 := ⟨_, rfl⟩
    rw [← hX] at t2
    obtain ⟨i1, i2⟩ := in_one (V := V) (F := F) (root := root) (X := X) (by rw [hX]; exact modlt _)
    have KI1 := KI.out wr X HA.out.1
    have HX := Lib.hid hX
    obtain ⟨sl, hsl⟩ : ∃ sl : ByteArray, sl = ⟨l.toArray⟩ := ⟨_, rfl⟩
    have hss : sl.size = j := by rw [hsl, str_size, hll]
    have HSL := Lib.hid hsl
    rw [← hsl]
    rcases opt_cases (tbAt V F root X 1) with ht | ⟨a, ht⟩
    · rw [i1 ht] at KI1
      have FIN := Lib.hid (show TextR V F root at_ m ⟨#[]⟩ 3 from ⟨j, l, hj, HO.out, .inl ⟨by rw [← HX.out]; exact ht, rfl, rfl⟩⟩)
      have KI1 := Lib.hid KI1
      clear ht i1 i2 hX hm hll hsl
      go_wp2_with fail
      refine KI1.out.mono ?_
      rintro e w3 ⟨rfl, m3, c3⟩
      have M3 := Lib.hid (And.intro m3 (HA.out.2.trans c3)); clear m3 c3
      go_wp2_with fail
      go_ret2
      exact ⟨_, _, FIN.out, rfl, M3.out⟩
    · rw [i2 a ht] at KI1
      have hsz := memStr_size V a 1
      have hb := byt_memStr V HSM.out a 1 0 (by omega)
      rw [Nat.add_zero] at hb
      have NXT := fun (hv : V a ≠ 0) => HO.out.next (by rw [← HX.out]; exact ht) hv
      generalize memStr V a 1 = s1 at *
      have hk : 0 < s1.size := by omega
      rw [← byt_get s1 0 hk] at hb
      have z1 : (0 : Int) < (s1.size : Int) := by omega
      by_cases hv : V a = 0
      · have FIN := Lib.hid (show TextR V F root at_ m sl 0 from ⟨j, l, hj, HO.out, .inr (.inl ⟨a, by rw [← HX.out]; exact ht, hv, hsl, rfl⟩)⟩)
        rw [hv] at hb
        have KI1 := Lib.hid KI1
        clear ht i1 i2 hX hm hll hsl hv hsz NXT
        go_wp2_with fail
        refine KI1.out.mono ?_
        rintro e w3 ⟨rfl, m3, c3⟩
        have M3 := Lib.hid (And.intro m3 (HA.out.2.trans c3)); clear m3 c3
        go_wp2_with fail
        go_ret2
        exact ⟨_, _, FIN.out, rfl, M3.out⟩
      · have NX := Lib.hid (NXT hv)
        have hadd := fun W => add_str W l s1 (by omega) hsz
        rw [← hsl] at hadd
        have hds : (l ++ s1.data.toList).length = j + 1 := by
          have h9 : s1.data.toList.length = s1.size := (by simp)
          rw [List.length_append, hll, h9, hsz]
        obtain ⟨va, hva⟩ : ∃ va, va = V a := ⟨_, rfl⟩
        rw [← hva] at hb hv
        have g1 : ((va : Int) == 0) = false := by simp; omega
        have g2 : ¬ ((va : Int) = 0) := by omega
        have HV := Lib.hid (And.intro ht (show V a ≠ 0 from hva ▸ hv))
        have KI1 := Lib.hid KI1
        by_cases hjm : j = m
        · have FIN := Lib.hid (show TextR V F root at_ m ⟨#[]⟩ 15 from ⟨j, l, hj, HO.out, .inr (.inr ⟨a, by rw [← HX.out]; exact HV.out.1, HV.out.2, hjm, rfl, rfl⟩)⟩)
          clear ht i1 i2 hX hm hll hsl hsz NXT hds hva
          subst hjm
          have f1 : ((j : Int) == (j : Int)) = true := by simp
          go_wp2_with fail
          refine KI1.out.mono ?_
          rintro e w3 ⟨rfl, m3, c3⟩
          have M3 := Lib.hid (And.intro m3 (HA.out.2.trans c3)); clear m3 c3
          go_wp2_with fail
          go_ret2
          exact ⟨_, _, FIN.out, rfl, M3.out⟩
        · have f1 : ((j : Int) == (m : Int)) = false := by simp; omega
          have f2 : ¬ j = m := hjm
          have hj1 : j + 1 ≤ m := by omega
          have HDS := Lib.hid hds
          have HSS := Lib.hid hss
          obtain ⟨l2, hl2⟩ : ∃ l2, l2 = l ++ s1.data.toList := ⟨_, rfl⟩
          rw [← hl2] at hadd NX HDS
          clear ht i1 i2 hX hm hll hsl hsz NXT hds hva hl2
          go_wp2_with fail
          refine KI1.out.mono ?_
          rintro e w3 ⟨rfl, m3, c3⟩
          have M3 := Lib.hid (And.intro m3 (HA.out.2.trans c3)); clear m3 c3 t1 t2
          go_wp2_with fail
          go_roundw
          case rel => exact ⟨l2, j + 1, hj1, rfl, M3, NX⟩
          case measure =>
            show m + 1 - (⟨l2.toArray⟩ : ByteArray).size < m + 1 - sl.size
            rw [str_size, HSS.out, HDS.out]
            omega
end Go.Proofs.YtodjmfmenfncdaaGreat

namespace Go.Proofs.YtodjmfmenfncdaaGreat
open Go.RowKit

theorem sp_in_root {S : Nat → Prop} {w : World} {q p F : Nat} {Fr : Nat → Bool} {V : Nat → Nat} (h : Pl S w q p F 0 Fr V) (hF : F ≤ 256) (root at_ n : Int) (ht : (decide (((0 : Nat) : Int) ≤ root ∧ root < (F : Int)) && !Fr root.toNat) = false) :
    Calls Tryz.prog 10 #[.pointer (some ⟨q, 0, none⟩), .int .i64 root, .int .u64 at_, .int .i64 n] w (StepF S w q p F 0 Fr V (.tuple #[.string ⟨#[]⟩, .int .i64 1])) := by
  have HT := sp_taken h hF root
  rw [ht] at HT
  have HT := Lib.hid HT
  clear h hF ht
  go_enter Tryz.func10, Tryz.ntmps10
  go_wp2_with fail
  refine HT.out.mono ?_
  rintro e w1 ⟨rfl, m1, c1⟩
  have M1 := Lib.hid (And.intro m1 c1); clear m1 c1
  go_wp2_with fail
  go_ret2
  exact ⟨rfl, M1.out⟩

theorem sp_in_neg {S : Nat → Prop} {w : World} {q p F : Nat} {Fr : Nat → Bool} {V : Nat → Nat} (h : Pl S w q p F 0 Fr V) (hF : F ≤ 256) (root at_ n : Int) (ht : (decide (((0 : Nat) : Int) ≤ root ∧ root < (F : Int)) && !Fr root.toNat) = true) (hn : n < 0) :
    Calls Tryz.prog 10 #[.pointer (some ⟨q, 0, none⟩), .int .i64 root, .int .u64 at_, .int .i64 n] w (StepF S w q p F 0 Fr V (.tuple #[.string ⟨#[]⟩, .int .i64 1])) := by
  have HT := sp_taken h hF root
  rw [ht] at HT
  have d1 : decide (n < (0 : Int)) = true := decide_eq_true hn
  have HT := Lib.hid HT
  clear h hF ht
  go_enter Tryz.func10, Tryz.ntmps10
  go_wp2_with fail
  refine HT.out.mono ?_
  rintro e w1 ⟨rfl, m1, c1⟩
  have M1 := Lib.hid (And.intro m1 c1); clear m1 c1
  go_wp2_with fail
  go_ret2
  exact ⟨rfl, M1.out⟩

theorem sp_in_big {S : Nat → Prop} {w : World} {q p F : Nat} {Fr : Nat → Bool} {V : Nat → Nat} (h : Pl S w q p F 0 Fr V) (hF : F ≤ 256) (root at_ n : Int) (ht : (decide (((0 : Nat) : Int) ≤ root ∧ root < (F : Int)) && !Fr root.toNat) = true) (hn : 4096 < n) :
    Calls Tryz.prog 10 #[.pointer (some ⟨q, 0, none⟩), .int .i64 root, .int .u64 at_, .int .i64 n] w (StepF S w q p F 0 Fr V (.tuple #[.string ⟨#[]⟩, .int .i64 1])) := by
  have HT := sp_taken h hF root
  rw [ht] at HT
  have d1 : decide (n < (0 : Int)) = false := decide_eq_false (by omega)
  have d2 : decide ((4096 : Int) < n) = true := decide_eq_true hn
  have HT := Lib.hid HT
  clear h hF ht
  go_enter Tryz.func10, Tryz.ntmps10
  go_wp2_with fail
  refine HT.out.mono ?_
  rintro e w1 ⟨rfl, m1, c1⟩
  have M1 := Lib.hid (And.intro m1 c1); clear m1 c1
  go_wp2_with fail
  go_ret2
  exact ⟨rfl, M1.out⟩

theorem sp_text_root {S : Nat → Prop} {w : World} {q p F : Nat} {Fr : Nat → Bool} {V : Nat → Nat} (h : Pl S w q p F 0 Fr V) (hF : F ≤ 256) (root at_ n : Int) (ht : (decide (((0 : Nat) : Int) ≤ root ∧ root < (F : Int)) && !Fr root.toNat) = false) :
    Calls Tryz.prog 9 #[.pointer (some ⟨q, 0, none⟩), .int .i64 root, .int .u64 at_, .int .i64 n] w (StepF S w q p F 0 Fr V (.tuple #[.string ⟨#[]⟩, .int .i64 1])) := by
  have HT := sp_taken h hF root
  rw [ht] at HT
  have HT := Lib.hid HT
  clear h hF ht
  go_enter Tryz.func9, Tryz.ntmps9
  go_wp2_with fail
  refine HT.out.mono ?_
  rintro e w1 ⟨rfl, m1, c1⟩
  have M1 := Lib.hid (And.intro m1 c1); clear m1 c1
  go_wp2_with fail
  go_ret2
  exact ⟨rfl, M1.out⟩

theorem sp_text_neg {S : Nat → Prop} {w : World} {q p F : Nat} {Fr : Nat → Bool} {V : Nat → Nat} (h : Pl S w q p F 0 Fr V) (hF : F ≤ 256) (root at_ n : Int) (ht : (decide (((0 : Nat) : Int) ≤ root ∧ root < (F : Int)) && !Fr root.toNat) = true) (hn : n < 0) :
    Calls Tryz.prog 9 #[.pointer (some ⟨q, 0, none⟩), .int .i64 root, .int .u64 at_, .int .i64 n] w (StepF S w q p F 0 Fr V (.tuple #[.string ⟨#[]⟩, .int .i64 1])) := by
  have HT := sp_taken h hF root
  rw [ht] at HT
  have d1 : decide (n < (0 : Int)) = true := decide_eq_true hn
  have HT := Lib.hid HT
  clear h hF ht
  go_enter Tryz.func9, Tryz.ntmps9
  go_wp2_with fail
  refine HT.out.mono ?_
  rintro e w1 ⟨rfl, m1, c1⟩
  have M1 := Lib.hid (And.intro m1 c1); clear m1 c1
  go_wp2_with fail
  go_ret2
  exact ⟨rfl, M1.out⟩

theorem sp_text_big {S : Nat → Prop} {w : World} {q p F : Nat} {Fr : Nat → Bool} {V : Nat → Nat} (h : Pl S w q p F 0 Fr V) (hF : F ≤ 256) (root at_ n : Int) (ht : (decide (((0 : Nat) : Int) ≤ root ∧ root < (F : Int)) && !Fr root.toNat) = true) (hn : 4096 < n) :
    Calls Tryz.prog 9 #[.pointer (some ⟨q, 0, none⟩), .int .i64 root, .int .u64 at_, .int .i64 n] w (StepF S w q p F 0 Fr V (.tuple #[.string ⟨#[]⟩, .int .i64 1])) := by
  have HT := sp_taken h hF root
  rw [ht] at HT
  have d1 : decide (n < (0 : Int)) = false := decide_eq_false (by omega)
  have d2 : decide ((4096 : Int) < n) = true := decide_eq_true hn
  have HT := Lib.hid HT
  clear h hF ht
  go_enter Tryz.func9, Tryz.ntmps9
  go_wp2_with fail
  refine HT.out.mono ?_
  rintro e w1 ⟨rfl, m1, c1⟩
  have M1 := Lib.hid (And.intro m1 c1); clear m1 c1
  go_wp2_with fail
  go_ret2
  exact ⟨rfl, M1.out⟩

theorem q_in_root {S : Nat → Prop} {w : World} {rq r F : Nat} {Fr : Nat → Bool} {V : Nat → Nat} (h : RQ S w rq r F Fr V) (hF : F ≤ 256) (root at_ n : Int) (ht : (decide (((0 : Nat) : Int) ≤ root ∧ root < (F : Int)) && !Fr root.toNat) = false) :
    Calls Tryz.prog 66 #[.pointer (some ⟨rq, 0, none⟩), .int .i64 root, .int .u64 at_, .int .i64 n] w (StepQ S w rq r F Fr V (.tuple #[.string ⟨#[]⟩, .int .i64 1])) := by
  have HT := q_taken h hF root
  rw [ht] at HT
  have HT := Lib.hid HT
  have HH := Lib.hid h
  clear h hF ht
  go_enter Tryz.func66, Tryz.ntmps66
  go_wp2_with fail
  refine HT.out.mono ?_
  rintro e w1 ⟨rfl, rfl⟩
  go_wp2_with fail
  go_ret2
  exact ⟨rfl, HH.out, Chg.refl _ _⟩

theorem q_in_neg {S : Nat → Prop} {w : World} {rq r F : Nat} {Fr : Nat → Bool} {V : Nat → Nat} (h : RQ S w rq r F Fr V) (hF : F ≤ 256) (root at_ n : Int) (ht : (decide (((0 : Nat) : Int) ≤ root ∧ root < (F : Int)) && !Fr root.toNat) = true) (hn : n < 0) :
    Calls Tryz.prog 66 #[.pointer (some ⟨rq, 0, none⟩), .int .i64 root, .int .u64 at_, .int .i64 n] w (StepQ S w rq r F Fr V (.tuple #[.string ⟨#[]⟩, .int .i64 1])) := by
  have HT := q_taken h hF root
  rw [ht] at HT
  have d1 : decide (n < (0 : Int)) = true := decide_eq_true hn
  have HT := Lib.hid HT
  have HH := Lib.hid h
  clear h hF ht
  go_enter Tryz.func66, Tryz.ntmps66
  go_wp2_with fail
  refine HT.out.mono ?_
  rintro e w1 ⟨rfl, rfl⟩
  go_wp2_with fail
  go_ret2
  exact ⟨rfl, HH.out, Chg.refl _ _⟩

theorem q_in_big {S : Nat → Prop} {w : World} {rq r F : Nat} {Fr : Nat → Bool} {V : Nat → Nat} (h : RQ S w rq r F Fr V) (hF : F ≤ 256) (root at_ n : Int) (ht : (decide (((0 : Nat) : Int) ≤ root ∧ root < (F : Int)) && !Fr root.toNat) = true) (hn : 4096 < n) :
    Calls Tryz.prog 66 #[.pointer (some ⟨rq, 0, none⟩), .int .i64 root, .int .u64 at_, .int .i64 n] w (StepQ S w rq r F Fr V (.tuple #[.string ⟨#[]⟩, .int .i64 1])) := by
  have HT := q_taken h hF root
  rw [ht] at HT
  have d1 : decide (n < (0 : Int)) = false := decide_eq_false (by omega)
  have d2 : decide ((4096 : Int) < n) = true := decide_eq_true hn
  have HT := Lib.hid HT
  have HH := Lib.hid h
  clear h hF ht
  go_enter Tryz.func66, Tryz.ntmps66
  go_wp2_with fail
  refine HT.out.mono ?_
  rintro e w1 ⟨rfl, rfl⟩
  go_wp2_with fail
  go_ret2
  exact ⟨rfl, HH.out, Chg.refl _ _⟩

theorem q_text_root {S : Nat → Prop} {w : World} {rq r F : Nat} {Fr : Nat → Bool} {V : Nat → Nat} (h : RQ S w rq r F Fr V) (hF : F ≤ 256) (root at_ n : Int) (ht : (decide (((0 : Nat) : Int) ≤ root ∧ root < (F : Int)) && !Fr root.toNat) = false) :
    Calls Tryz.prog 68 #[.pointer (some ⟨rq, 0, none⟩), .int .i64 root, .int .u64 at_, .int .i64 n] w (StepQ S w rq r F Fr V (.tuple #[.string ⟨#[]⟩, .int .i64 1])) := by
  have HT := q_taken h hF root
  rw [ht] at HT
  have HT := Lib.hid HT
  have HH := Lib.hid h
  clear h hF ht
  go_enter Tryz.func68, Tryz.ntmps68
  go_wp2_with fail
  refine HT.out.mono ?_
  rintro e w1 ⟨rfl, rfl⟩
  go_wp2_with fail
  go_ret2
  exact ⟨rfl, HH.out, Chg.refl _ _⟩

theorem q_text_neg {S : Nat → Prop} {w : World} {rq r F : Nat} {Fr : Nat → Bool} {V : Nat → Nat} (h : RQ S w rq r F Fr V) (hF : F ≤ 256) (root at_ n : Int) (ht : (decide (((0 : Nat) : Int) ≤ root ∧ root < (F : Int)) && !Fr root.toNat) = true) (hn : n < 0) :
    Calls Tryz.prog 68 #[.pointer (some ⟨rq, 0, none⟩), .int .i64 root, .int .u64 at_, .int .i64 n] w (StepQ S w rq r F Fr V (.tuple #[.string ⟨#[]⟩, .int .i64 1])) := by
  have HT := q_taken h hF root
  rw [ht] at HT
  have d1 : decide (n < (0 : Int)) = true := decide_eq_true hn
  have HT := Lib.hid HT
  have HH := Lib.hid h
  clear h hF ht
  go_enter Tryz.func68, Tryz.ntmps68
  go_wp2_with fail
  refine HT.out.mono ?_
  rintro e w1 ⟨rfl, rfl⟩
  go_wp2_with fail
  go_ret2
  exact ⟨rfl, HH.out, Chg.refl _ _⟩

theorem q_text_big {S : Nat → Prop} {w : World} {rq r F : Nat} {Fr : Nat → Bool} {V : Nat → Nat} (h : RQ S w rq r F Fr V) (hF : F ≤ 256) (root at_ n : Int) (ht : (decide (((0 : Nat) : Int) ≤ root ∧ root < (F : Int)) && !Fr root.toNat) = true) (hn : 4096 < n) :
    Calls Tryz.prog 68 #[.pointer (some ⟨rq, 0, none⟩), .int .i64 root, .int .u64 at_, .int .i64 n] w (StepQ S w rq r F Fr V (.tuple #[.string ⟨#[]⟩, .int .i64 1])) := by
  have HT := q_taken h hF root
  rw [ht] at HT
  have d1 : decide (n < (0 : Int)) = false := decide_eq_false (by omega)
  have d2 : decide ((4096 : Int) < n) = true := decide_eq_true hn
  have HT := Lib.hid HT
  have HH := Lib.hid h
  clear h hF ht
  go_enter Tryz.func68, Tryz.ntmps68
  go_wp2_with fail
  refine HT.out.mono ?_
  rintro e w1 ⟨rfl, rfl⟩
  go_wp2_with fail
  go_ret2
  exact ⟨rfl, HH.out, Chg.refl _ _⟩

theorem q_out_free {S : Nat → Prop} {w : World} {rq r F : Nat} {Fr : Nat → Bool} {V : Nat → Nat} (h : RQ S w rq r F Fr V) (hF : F ≤ 256) (root at_ : Int) (s : ByteArray) (ht : (decide (((0 : Nat) : Int) ≤ root ∧ root < (F : Int)) && !Fr root.toNat) = false) :
    Calls Tryz.prog 67 #[.pointer (some ⟨rq, 0, none⟩), .int .i64 root, .int .u64 at_, .string s] w (StepQ S w rq r F Fr V (.int .i64 1)) := by
  have HT := q_taken h hF root
  rw [ht] at HT
  have HT := Lib.hid HT
  have HH := Lib.hid h
  clear h hF ht
  go_enter Tryz.func67, Tryz.ntmps67
  go_wp2_with fail
  refine HT.out.mono ?_
  rintro e w1 ⟨rfl, rfl⟩
  go_wp2_with fail
  go_ret
  exact ⟨rfl, HH.out, Chg.refl _ _⟩

theorem q_out_long {S : Nat → Prop} {w : World} {rq r F : Nat} {Fr : Nat → Bool} {V : Nat → Nat} (h : RQ S w rq r F Fr V) (hF : F ≤ 256) (root at_ : Int) (s : ByteArray) (hs : 4096 < s.size) (ht : (decide (((0 : Nat) : Int) ≤ root ∧ root < (F : Int)) && !Fr root.toNat) = true) :
    Calls Tryz.prog 67 #[.pointer (some ⟨rq, 0, none⟩), .int .i64 root, .int .u64 at_, .string s] w (StepQ S w rq r F Fr V (.int .i64 1)) := by
  have HT := q_taken h hF root
  rw [ht] at HT
  have d1 : decide ((4096 : Int) < (s.size : Int)) = true := decide_eq_true (by omega)
  have HT := Lib.hid HT
  have HH := Lib.hid h
  clear h hF ht
  go_enter Tryz.func67, Tryz.ntmps67
  go_wp2_with fail
  refine HT.out.mono ?_
  rintro e w1 ⟨rfl, rfl⟩
  go_wp2_with fail
  go_ret
  exact ⟨rfl, HH.out, Chg.refl _ _⟩

end Go.Proofs.YtodjmfmenfncdaaGreat
