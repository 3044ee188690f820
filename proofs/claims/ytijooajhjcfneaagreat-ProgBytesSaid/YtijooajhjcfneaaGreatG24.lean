/-
  Several texts in one: PgMay, PgRep, PgEnc, PgEnc2.
-/
import Derived.Test.YtijooajhjcfneaaGreatG23
import Derived.Shelf.Strings.Repeat
import Derived.Deep.RegionHeld3
import Derived.BigQuiet
namespace Go.Proofs.YtijooajhjcfneaaGreat
open Go.RowKit

/-- a program -/
structure Prg where
  entry : Int
  text : ByteArray
  data : ByteArray
  bss : Int
def Prg.val (x : Prg) : Value := .agg #[.int .i64 x.entry, .string x.text, .string x.data, .int .i64 x.bss]
/-- .. that may be -/
def mayP (e : Int) (n d : Nat) (b : Int) : Bool := decide (4 ≤ n ∧ n ≤ 2048 ∧ n % 4 = 0 ∧ 0 ≤ e ∧ e < (n : Int) ∧ e % 4 = 0 ∧ d ≤ 1024 ∧ 0 ≤ b ∧ b ≤ 4096 ∧ 32 + n + d ≤ 2368)
def Prg.may (x : Prg) : Bool := mayP x.entry x.text.size x.data.size x.bss
/-- no longer than any string -/
structure Prg.Small (x : Prg) : Prop where
  t : x.text.size ≤ 9223372036854775807
  d : x.data.size ≤ 9223372036854775807
set_option maxRecDepth 100000 in
set_option maxHeartbeats 1600000 in
theorem p_may_walk (w : World) (e b : Int) (n d : Nat) (text data : ByteArray) (ht : text.size = n) (hd : data.size = d) (hn63 : n ≤ 9223372036854775807) (hd63 : d ≤ 9223372036854775807) (c0 : Bool) (h0 : decide ((4 : Int) ≤ (n : Int)) = c0) (c1 : Bool) (h1 : decide ((n : Int) ≤ (2048 : Int)) = c1) (c2 : Bool) (h2 : ((n : Int) % 4 == 0) = c2) (c3 : Bool) (h3 : decide ((0 : Int) ≤ e) = c3) (c4 : Bool) (h4 : decide (e < (n : Int)) = c4) (c5 : Bool) (h5 : (e.tmod 4 == 0) = c5) (c6 : Bool) (h6 : decide ((d : Int) ≤ (1024 : Int)) = c6) (c7 : Bool) (h7 : decide ((0 : Int) ≤ b) = c7) (c8 : Bool) (h8 : decide (b ≤ (4096 : Int)) = c8) (c9 : Bool) (h9 : decide (32 + (n : Int) + (d : Int) ≤ (2368 : Int)) = c9) :
    Calls Tryz.prog 25 #[.agg #[.int .i64 e, .string text, .string data, .int .i64 b]] w fun r w' => r = .returned (.bool (c0 && c1 && c2 && c3 && c4 && c5 && c6 && c7 && c8 && c9)) ∧ Chg (fun _ => False) w w' := by
  have hx : (n : Int).tmod 4 = (n : Int) % 4 := Int.tmod_eq_emod_of_nonneg (by omega)
  cases c0 with
  | false =>
    go_enter Tryz.func25, Tryz.ntmps25
    go_wp2_with fail
    go_ret
    exact ⟨rfl, (Chg.refl _ _).alloc _⟩
  | true =>
    cases c1 with
    | false =>
      go_enter Tryz.func25, Tryz.ntmps25
      go_wp2_with fail
      go_ret
      exact ⟨rfl, (Chg.refl _ _).alloc _⟩
    | true =>
      cases c2 with
      | false =>
        go_enter Tryz.func25, Tryz.ntmps25
        go_wp2_with fail
        go_ret
        exact ⟨rfl, (Chg.refl _ _).alloc _⟩
      | true =>
        cases c3 with
        | false =>
          go_enter Tryz.func25, Tryz.ntmps25
          go_wp2_with fail
          go_ret
          exact ⟨rfl, (Chg.refl _ _).alloc _⟩
        | true =>
          cases c4 with
          | false =>
            go_enter Tryz.func25, Tryz.ntmps25
            go_wp2_with fail
            go_ret
            exact ⟨rfl, (Chg.refl _ _).alloc _⟩
          | true =>
            cases c5 with
            | false =>
              go_enter Tryz.func25, Tryz.ntmps25
              go_wp2_with fail
              go_ret
              exact ⟨rfl, (Chg.refl _ _).alloc _⟩
            | true =>
              cases c6 with
              | false =>
                go_enter Tryz.func25, Tryz.ntmps25
                go_wp2_with fail
                go_ret
                exact ⟨rfl, (Chg.refl _ _).alloc _⟩
              | true =>
                cases c7 with
                | false =>
                  go_enter Tryz.func25, Tryz.ntmps25
                  go_wp2_with fail
                  go_ret
                  exact ⟨rfl, (Chg.refl _ _).alloc _⟩
                | true =>
                  cases c8 with
                  | false =>
                    go_enter Tryz.func25, Tryz.ntmps25
                    go_wp2_with fail
                    go_ret
                    exact ⟨rfl, (Chg.refl _ _).alloc _⟩
                  | true =>
                    cases c9 with
                    | false =>
                      have k1 : (n : Int) ≤ 2048 := of_decide_eq_true h1
                      have k2 : (d : Int) ≤ 1024 := of_decide_eq_true h6
                      have k3 : wrap64 (32 + (n : Int)) = 32 + (n : Int) := by unfold wrap64; omega
                      have k4 : wrap64 (32 + (n : Int) + (d : Int)) = 32 + (n : Int) + (d : Int) := by unfold wrap64; omega
                      go_enter Tryz.func25, Tryz.ntmps25
                      go_wp2_with fail
                      go_ret
                      exact ⟨rfl, (Chg.refl _ _).alloc _⟩
                    | true =>
                      have k1 : (n : Int) ≤ 2048 := of_decide_eq_true h1
                      have k2 : (d : Int) ≤ 1024 := of_decide_eq_true h6
                      have k3 : wrap64 (32 + (n : Int)) = 32 + (n : Int) := by unfold wrap64; omega
                      have k4 : wrap64 (32 + (n : Int) + (d : Int)) = 32 + (n : Int) + (d : Int) := by unfold wrap64; omega
                      go_enter Tryz.func25, Tryz.ntmps25
                      go_wp2_with fail
                      go_ret
                      exact ⟨rfl, (Chg.refl _ _).alloc _⟩
set_option maxRecDepth 100000 in
set_option maxHeartbeats 1600000 in
theorem q_may_walk (w : World) (e b : Int) (n d : Nat) (text data : ByteArray) (ht : text.size = n) (hd : data.size = d) (hn63 : n ≤ 9223372036854775807) (hd63 : d ≤ 9223372036854775807) (c0 : Bool) (h0 : decide ((4 : Int) ≤ (n : Int)) = c0) (c1 : Bool) (h1 : decide ((n : Int) ≤ (2048 : Int)) = c1) (c2 : Bool) (h2 : ((n : Int) % 4 == 0) = c2) (c3 : Bool) (h3 : decide ((0 : Int) ≤ e) = c3) (c4 : Bool) (h4 : (e.tmod 4 == 0) = c4) (c5 : Bool) (h5 : decide (e < (n : Int)) = c5) (c6 : Bool) (h6 : decide ((d : Int) ≤ (1024 : Int)) = c6) (c7 : Bool) (h7 : decide ((0 : Int) ≤ b) = c7) (c8 : Bool) (h8 : decide (b ≤ (4096 : Int)) = c8) (c9 : Bool) (h9 : decide (32 + (n : Int) + (d : Int) ≤ (2368 : Int)) = c9) :
    Calls Tryz.prog 18 #[.agg #[.int .i64 e, .string text, .string data, .int .i64 b]] w fun r w' => r = .returned (.bool (c0 && c1 && c2 && c3 && c4 && c5 && c6 && c7 && c8 && c9)) ∧ Chg (fun _ => False) w w' := by
  have hx : (n : Int).tmod 4 = (n : Int) % 4 := Int.tmod_eq_emod_of_nonneg (by omega)
  cases c0 with
  | false =>
    go_enter Tryz.func18, Tryz.ntmps18
    go_wp2_with fail
    go_ret
    exact ⟨rfl, (Chg.refl _ _).alloc _⟩
  | true =>
    cases c1 with
    | false =>
      go_enter Tryz.func18, Tryz.ntmps18
      go_wp2_with fail
      go_ret
      exact ⟨rfl, (Chg.refl _ _).alloc _⟩
    | true =>
      cases c2 with
      | false =>
        go_enter Tryz.func18, Tryz.ntmps18
        go_wp2_with fail
        go_ret
        exact ⟨rfl, (Chg.refl _ _).alloc _⟩
      | true =>
        cases c3 with
        | false =>
          go_enter Tryz.func18, Tryz.ntmps18
          go_wp2_with fail
          go_ret
          exact ⟨rfl, (Chg.refl _ _).alloc _⟩
        | true =>
          cases c4 with
          | false =>
            go_enter Tryz.func18, Tryz.ntmps18
            go_wp2_with fail
            go_ret
            exact ⟨rfl, (Chg.refl _ _).alloc _⟩
          | true =>
            cases c5 with
            | false =>
              go_enter Tryz.func18, Tryz.ntmps18
              go_wp2_with fail
              go_ret
              exact ⟨rfl, (Chg.refl _ _).alloc _⟩
            | true =>
              cases c6 with
              | false =>
                go_enter Tryz.func18, Tryz.ntmps18
                go_wp2_with fail
                go_ret
                exact ⟨rfl, (Chg.refl _ _).alloc _⟩
              | true =>
                cases c7 with
                | false =>
                  go_enter Tryz.func18, Tryz.ntmps18
                  go_wp2_with fail
                  go_ret
                  exact ⟨rfl, (Chg.refl _ _).alloc _⟩
                | true =>
                  cases c8 with
                  | false =>
                    go_enter Tryz.func18, Tryz.ntmps18
                    go_wp2_with fail
                    go_ret
                    exact ⟨rfl, (Chg.refl _ _).alloc _⟩
                  | true =>
                    cases c9 with
                    | false =>
                      have k1 : (n : Int) ≤ 2048 := of_decide_eq_true h1
                      have k2 : (d : Int) ≤ 1024 := of_decide_eq_true h6
                      have k3 : wrap64 (32 + (n : Int)) = 32 + (n : Int) := by unfold wrap64; omega
                      have k4 : wrap64 (32 + (n : Int) + (d : Int)) = 32 + (n : Int) + (d : Int) := by unfold wrap64; omega
                      go_enter Tryz.func18, Tryz.ntmps18
                      go_wp2_with fail
                      go_ret
                      exact ⟨rfl, (Chg.refl _ _).alloc _⟩
                    | true =>
                      have k1 : (n : Int) ≤ 2048 := of_decide_eq_true h1
                      have k2 : (d : Int) ≤ 1024 := of_decide_eq_true h6
                      have k3 : wrap64 (32 + (n : Int)) = 32 + (n : Int) := by unfold wrap64; omega
                      have k4 : wrap64 (32 + (n : Int) + (d : Int)) = 32 + (n : Int) + (d : Int) := by unfold wrap64; omega
                      go_enter Tryz.func18, Tryz.ntmps18
                      go_wp2_with fail
                      go_ret
                      exact ⟨rfl, (Chg.refl _ _).alloc _⟩
theorem may_eq1 (e : Int) (n d : Nat) (b : Int) : (decide ((4 : Int) ≤ (n : Int)) && decide ((n : Int) ≤ (2048 : Int)) && ((n : Int) % 4 == 0) && decide ((0 : Int) ≤ e) && decide (e < (n : Int)) && (e.tmod 4 == 0) && decide ((d : Int) ≤ (1024 : Int)) && decide ((0 : Int) ≤ b) && decide (b ≤ (4096 : Int)) && decide (32 + (n : Int) + (d : Int) ≤ (2368 : Int))) = mayP e n d b := by
  unfold mayP
  apply Bool.eq_iff_iff.2
  simp only [Bool.and_eq_true, decide_eq_true_eq, beq_iff_eq]
  by_cases h : 0 ≤ e
  · rw [Int.tmod_eq_emod_of_nonneg h]; omega
  · constructor
    · intro k; omega
    · intro k; omega
theorem may_eq2 (e : Int) (n d : Nat) (b : Int) : (decide ((4 : Int) ≤ (n : Int)) && decide ((n : Int) ≤ (2048 : Int)) && ((n : Int) % 4 == 0) && decide ((0 : Int) ≤ e) && (e.tmod 4 == 0) && decide (e < (n : Int)) && decide ((d : Int) ≤ (1024 : Int)) && decide ((0 : Int) ≤ b) && decide (b ≤ (4096 : Int)) && decide (32 + (n : Int) + (d : Int) ≤ (2368 : Int))) = mayP e n d b := by
  unfold mayP
  apply Bool.eq_iff_iff.2
  simp only [Bool.and_eq_true, decide_eq_true_eq, beq_iff_eq]
  by_cases h : 0 ≤ e
  · rw [Int.tmod_eq_emod_of_nonneg h]; omega
  · constructor
    · intro k; omega
    · intro k; omega

theorem p_may (w : World) (x : Prg) (h : x.Small) :
    Calls Tryz.prog 25 #[x.val] w fun r w' => r = .returned (.bool x.may) ∧ Chg (fun _ => False) w w' := by
  obtain ⟨e, text, data, b⟩ := x
  refine (p_may_walk w e b text.size data.size text data rfl rfl h.t h.d _ rfl _ rfl _ rfl _ rfl _ rfl _ rfl _ rfl _ rfl _ rfl _ rfl).mono fun r w' k => ⟨k.1.trans ?_, k.2⟩
  congr 2
  exact may_eq1 e text.size data.size b
theorem q_may (w : World) (x : Prg) (h : x.Small) :
    Calls Tryz.prog 18 #[x.val] w fun r w' => r = .returned (.bool x.may) ∧ Chg (fun _ => False) w w' := by
  obtain ⟨e, text, data, b⟩ := x
  refine (q_may_walk w e b text.size data.size text data rfl rfl h.t h.d _ rfl _ rfl _ rfl _ rfl _ rfl _ rfl _ rfl _ rfl _ rfl _ rfl).mono fun r w' k => ⟨k.1.trans ?_, k.2⟩
  congr 2
  exact may_eq2 e text.size data.size b
end Go.Proofs.YtijooajhjcfneaaGreat

namespace Go.Proofs.YtijooajhjcfneaaGreat
open Go.RowKit

theorem chg_of_below {w w' : World} (h : Below w.heap.size w w') : Chg (fun _ => False) w w' := ⟨h.os, h.tape, h.output, h.size, fun i hi _ => h.block i hi⟩
theorem b_check_f {B b : Nat} {bs : List Value} {w : World} (h : Lib.IsBuilderF 110 5 B b bs w) :
    Calls Tryz.prog 73 #[.pointer (some ⟨b, 0, none⟩)] w fun e w' => e = .returned (.tuple #[]) ∧ Lib.BuilderAtF 110 5 B b (.pointer (some ⟨b, 0, none⟩)) bs w' ∧ Below B w w' := by
  rcases h with h | h
  · refine (b_check_fresh b w h.cell0 h.shape h.frozen0).mono ?_
    rintro r w' ⟨rfl, rfl⟩
    exact ⟨rfl, h.used _, (Below.refl B w).setCell (p := ⟨b, 0, none⟩) h.1 _⟩
  · refine (b_check_used b w h.cell0).mono ?_
    rintro r w' ⟨rfl, rfl⟩
    exact ⟨rfl, h, Below.refl B w'⟩
set_option maxHeartbeats 2000000 in
set_option maxRecDepth 100000 in
/-- WriteString at a builder that may have been read -/
theorem b_write_f (B b : Nat) (bs : List Value) (s : ByteArray) (w : World) (h : Lib.IsBuilderF 110 5 B b bs w) (hlen : bs.length + s.size ≤ 140737488355328) (hBw : B ≤ w.heap.size) :
    Calls Tryz.prog 42 #[.pointer (some ⟨b, 0, none⟩), .string s] w fun e w' => e = .returned (.tuple #[.int .i64 s.size, .nilIface]) ∧ (Lib.BuilderAtF 110 5 B b (.pointer (some ⟨b, 0, none⟩)) (bs ++ Lib.strCells s) w' ∧ Below B w w') := by
  obtain ⟨i0, hi, hz0, hz1, hz2⟩ := info_parts Tryz.infoByte8
  have KC := Lib.hid (b_check_f h)
  go_enter Tryz.func42, Tryz.ntmps42
  go_wp2_with fail
  refine KC.out.mono ?_
  rintro e w1 ⟨rfl, ⟨hB, v, hbk, hown, hne⟩, hb1⟩
  have hBw1 : B ≤ w1.heap.size := Nat.le_trans hBw hb1.size
  have c0 : w1.cell? ⟨b, 0, none⟩ = some (.pointer (some ⟨b, 0, none⟩)) := by rw [Lib.cell_of_heap hbk]; rfl
  have c1 : w1.cell? ⟨b, 1, none⟩ = some v := by rw [Lib.cell_of_heap hbk]; rfl
  go_wp2_with (at_builtin; refine Lib.wpList_append_own_stringF _ rfl _ _ 51 9 rfl B 5 i0 Tryz.underlying51 Tryz.underlying9 hi hz0 hz1 hz2 _ _ _ rfl hown s rfl ?c3 ?c4 ?c5 ?_)
  case c3 => unfold maxLen; omega
  case c4 => omega
  case c5 => exact hBw1
  intro v' w2 hown' hgrow _
  have hlt : b < w1.heap.size := by
    rcases Nat.lt_or_ge b w1.heap.size with h' | h'
    · exact h'
    · simp [Array.getElem?_eq_none h'] at hbk
  have hb2 : w2.heap[b]? = some (.cells #[.pointer (some ⟨b, 0, none⟩), v] 110 (0, 0)) := by
    rw [hgrow.block b hlt (fun e => hne e.symm)]
    exact hbk
  have d0 : w2.cell? ⟨b, 0, none⟩ = some (.pointer (some ⟨b, 0, none⟩)) := by rw [Lib.cell_of_heap hb2]; rfl
  have d1 : w2.cell? ⟨b, 1, none⟩ = some v := by rw [Lib.cell_of_heap hb2]; rfl
  have f1 : w2.frozen? ⟨b, 1, none⟩ = false := Lib.frozen_of_heap hb2 1
  obtain ⟨ao, n', cap, rfl⟩ : ∃ ao n' cap, v' = .slice ao n' cap := by
    rcases hown'.2 with ⟨hv, _⟩ | ⟨g, cap, cur, fz, hv, _⟩
    · exact ⟨_, _, _, hv⟩
    · exact ⟨_, _, _, hv⟩
  have FIN := Lib.hid (show Lib.BuilderAtF 110 5 B b (.pointer (some ⟨b, 0, none⟩)) (bs ++ Lib.strCells s) (w2.setCell ⟨b, 1, none⟩ (.slice ao n' cap)) ∧ Below B w (w2.setCell ⟨b, 1, none⟩ (.slice ao n' cap)) from
    ⟨Lib.BuilderAtF.put (T := 110) (e := 5) hB hb2 (bs' := bs ++ Lib.strCells s) (by simpa [Lib.strCells_length] using hown') (by decide), hb1.trans (((Below.refl B w1).grown hgrow hBw1 (fun k hk => (hown.lt k hk).1)).setCell (p := ⟨b, 1, none⟩) hB _)⟩)
  clear hown hown' hgrow hbk hb2 hne KC hb1
  go_wp2_with fail
  go_ret2
  exact ⟨rfl, FIN.out⟩
/-- twelve noughts -/
def zerosB (n : Nat) : ByteArray := ⟨(List.replicate n (0 : UInt8)).toArray⟩
theorem rep_cells (q k : Nat) (h : k ≤ q) : Lib.byteCells (List.replicate q 0) ++ Lib.strCells ((zerosB q).extract 0 k) = Lib.byteCells (List.replicate (q + k) 0) := by
  rw [Lib.strCells_eq, ← Lib.byteCells_append, Lib.extract_data]
  congr 1
  show List.replicate q 0 ++ List.take (k - 0) (List.drop 0 (List.replicate q 0).toArray.toList) = _
  simp [List.take_replicate, Nat.min_eq_left h]
theorem rep_size (q k : Nat) (h : k ≤ q) : ((zerosB q).extract 0 k).size = k := by
  rw [Lib.size_eq, Lib.extract_data]
  show (List.take (k - 0) (List.drop 0 (List.replicate q 0).toArray.toList)).length = k
  simp [h]
set_option maxRecDepth 1000000 in
set_option maxHeartbeats 1600000 in
theorem rep12 (w : World) : Calls Tryz.prog 48 #[.string ⟨#[0]⟩, .int .i64 12] w fun e w' => e = .returned (.string (zerosB 12)) ∧ Chg (fun _ => False) w w' := by
  have hMul := Tryz.bits_Mul 1 12 (by omega) (by omega) w
  rw [show 1 * 12 / 18446744073709551616 = 0 from rfl, show 1 * 12 % 18446744073709551616 = 12 from rfl] at hMul
  have b0 : Below w.heap.size w (w.alloc (.cells #[.pointer none, .slice none 0 0] 110)) := (Below.refl _ w).alloc (Nat.le_refl _) _
  have cG := Tryz.Builder_Grow_fresh w.heap.size w.heap.size 12 (w.alloc (.cells #[.pointer none, .slice none 0 0] 110)) (Nat.le_refl _) (heap_alloc_new w _) b0.size (by omega)
  have hMul := Lib.hid hMul; have cG := Lib.hid cG; have B0 := Lib.hid b0
  clear b0
  go_enter Tryz.func48, Tryz.ntmps48
  go_wp2_with fail
  refine hMul.out.mono ?_
  rintro e w' ⟨rfl, rfl⟩
  go_wp2_with fail
  refine cG.out.mono ?_
  rintro e w1 ⟨rfl, h1, b1⟩
  have H1 := Lib.hid (show Lib.IsBuilderF 110 5 w'.heap.size w'.heap.size [] w1 from .inr (Lib.BuilderAtF.of h1))
  have B1 := Lib.hid (B0.out.trans b1)
  clear h1 b1 cG hMul
  have KW := Lib.hid (b_write_f w'.heap.size w'.heap.size [] ⟨#[0]⟩ w1 H1.out (by decide) B1.out.size)
  go_wp2_with fail
  refine KW.out.mono ?_
  rintro e w2 ⟨rfl, h2, b2⟩
  have H2 := Lib.hid (show Lib.IsBuilderF 110 5 w'.heap.size w'.heap.size (Lib.byteCells (List.replicate 1 0)) w2 from .inr h2)
  have B2 := Lib.hid (B1.out.trans b2)
  clear h2 b2 H1 B1 KW B0
  go_wp2_with fail
  go_loopg [] 11 (fun g wx => ∃ q : Nat, 1 ≤ q ∧ q + g = 12 ∧ Hid (Lib.IsBuilderF 110 5 w'.heap.size w'.heap.size (Lib.byteCells (List.replicate q 0)) wx) ∧ Hid (Below w'.heap.size w' wx))
  case atStart => exact ⟨1, Nat.le_refl _, rfl, H2, B2⟩
  case round =>
    obtain ⟨q, hq1, hqg, HQ, HB⟩ := hrel
    have hlq : (Lib.byteCells (List.replicate q 0)).length = q := by rw [Lib.byteCells_length, List.length_replicate]
    have cLen := Tryz.Builder_Len_f w'.heap.size w'.heap.size _ wr HQ.out
    rw [hlq] at cLen
    have cStr := Tryz.Builder_String_any_f w'.heap.size w'.heap.size (List.replicate q 0) wr HQ.out HB.out.size
    rw [show (⟨(List.replicate q (0 : UInt8)).toArray⟩ : ByteArray) = zerosB q from rfl] at cStr
    have hsz : (zerosB q).size = q := by rw [Lib.size_eq]; show (List.replicate q (0 : UInt8)).toArray.toList.length = q; simp
    have cLen := Lib.hid cLen; have cStr := Lib.hid cStr
    by_cases hlt : q < 12
    · have d1 : decide ((q : Int) < (12 : Int)) = true := decide_eq_true (by omega)
      obtain ⟨k, hk⟩ : ∃ k, k = min (12 - q) q := ⟨_, rfl⟩
      have hk1 : 1 ≤ k ∧ k ≤ q ∧ q + k ≤ 12 := by omega
      have hmin3 : ∀ (ts : Array TypeId) (t : TypeId) (W : World), (Builtin.min_ ts t #[.int .i64 (12 - (q : Int)), .int .i64 (q : Int), .int .i64 12]).run Tryz.prog W = .ok (.int .i64 (k : Int)) W := fun ts t W => by
        rw [run_min_int3]
        congr 2
        omega
      have KW := Lib.hid (fun (W : World) (H : Lib.IsBuilderF 110 5 w'.heap.size w'.heap.size (Lib.byteCells (List.replicate q 0)) W) (hb : Below w'.heap.size w' W) => b_write_f w'.heap.size w'.heap.size _ ((zerosB q).extract 0 k) W H (by rw [hlq, rep_size q k hk1.2.1]; omega) hb.size)
      have NX := Lib.hid (rep_cells q k hk1.2.1)
      generalize zerosB q = S at *
      have w1 : wrap64 (12 - (q : Int)) = 12 - (q : Int) := by unfold wrap64; omega
      have y1 : (k : Int) ≤ (S.size : Int) := by omega
      have y2 : (0 : Int) ≤ (k : Int) := by omega
      clear hk hlq
      go_wp2_with (first | (go_at_call 78; refine cLen.out.mono ?_; rintro e w3 ⟨rfl, hw⟩; rw [hw]; clear hw w3) | (go_at_call 43; refine cStr.out.mono ?_; rintro e w4 ⟨rfl, h3, b3⟩))
      have K3 := Lib.hid (KW.out w4 h3 (HB.out.trans b3))
      have B4 := Lib.hid (HB.out.trans b3)
      clear h3 b3
      refine K3.out.mono ?_
      rintro e w5 ⟨rfl, h5, b5⟩
      have H5 := Lib.hid (show Lib.IsBuilderF 110 5 w'.heap.size w'.heap.size (Lib.byteCells (List.replicate (q + k) 0)) w5 from .inr (by rw [← NX.out]; exact h5))
      have B5 := Lib.hid (B4.out.trans b5)
      clear h5 b5
      go_wp2_with fail
      go_roundg (12 - (q + k))
      case measure => omega
      case rel => exact ⟨q + k, by omega, by omega, H5, B5⟩
    · have hq : q = 12 := by omega
      subst hq
      clear hlq
      go_wp2_with (first | (go_at_call 78; refine cLen.out.mono ?_; rintro e w3 ⟨rfl, hw⟩; rw [hw]; clear hw w3) | (go_at_call 43; refine cStr.out.mono ?_; rintro e w4 ⟨rfl, h3, b3⟩))
      go_ret
      exact ⟨rfl, chg_of_below (HB.out.trans b3)⟩
end Go.Proofs.YtijooajhjcfneaaGreat

namespace Go.Proofs.YtijooajhjcfneaaGreat
open Go.RowKit

theorem may_nums {x : Prg} (h : x.may = true) : 4 ≤ x.text.size ∧ x.text.size ≤ 2048 ∧ x.text.size % 4 = 0 ∧ 0 ≤ x.entry ∧ x.entry < (x.text.size : Int) ∧ x.entry % 4 = 0 ∧ x.data.size ≤ 1024 ∧ 0 ≤ x.bss ∧ x.bss ≤ 4096 ∧ 32 + x.text.size + x.data.size ≤ 2368 := of_decide_eq_true h
/-- so many pages -/
def pagesN (n : Nat) : Nat := (n + 255) / 256
theorem p_paged (w : World) (n : Nat) (h : n ≤ 100000) : Calls Tryz.prog 54 #[.int .i64 n] w fun e w' => e = .returned (.int .i64 (pagesN n : Nat)) ∧ w = w' := by
  have w1 : wrap64 ((n : Int) + 256) = (n : Int) + 256 := by unfold wrap64; omega
  have w2 : wrap64 ((n : Int) + 256 - 1) = (n : Int) + 255 := by unfold wrap64; omega
  obtain ⟨d, hd⟩ : ∃ d, d = pagesN n := ⟨_, rfl⟩
  have q2 : ((n : Int) + 256 - 1) / 256 = (d : Int) := by rw [hd]; unfold pagesN; omega
  have hd2 : d ≤ 1000 := by rw [hd]; unfold pagesN; omega
  have w3 : wrap64 (d : Int) = (d : Int) := by unfold wrap64; omega
  rw [← hd]
  clear hd
  go_enter Tryz.func54, Tryz.ntmps54
  go_wp2_with fail
  go_ret
  exact ⟨congrArg (fun y : Int => Ending.returned (.int .i64 y)) q2, rfl⟩
def sizeV2 (x : Prg) : Value := if x.may = true then .tuple #[.int .i64 (pagesN x.text.size : Nat), .int .i64 (pagesN (x.data.size + x.bss.toNat) : Nat)] else .tuple #[.int .i64 0, .int .i64 0]
set_option maxRecDepth 100000 in
set_option maxHeartbeats 1600000 in
theorem p_size (w : World) (x : Prg) (h : x.Small) :
    Calls Tryz.prog 26 #[x.val] w fun r w' => r = .returned (sizeV2 x) ∧ Chg (fun _ => False) w w' := by
  have KM := Lib.hid (fun W => p_may W x h)
  cases hm : x.may with
  | false =>
    rw [hm] at KM
    have e : sizeV2 x = .tuple #[.int .i64 0, .int .i64 0] := by unfold sizeV2; rw [hm]; rfl
    rw [e]
    have C0 := Lib.hid ((Chg.refl (fun _ => False) w).alloc (.cells #[.int .i64 x.entry, .string x.text, .string x.data, .int .i64 x.bss] 23))
    unfold Prg.val at *
    go_enter Tryz.func26, Tryz.ntmps26
    go_wp2_with fail
    refine (KM.out _).mono ?_
    rintro e w1 ⟨rfl, c1⟩
    have C1 := Lib.hid (C0.out.trans c1); clear c1
    go_wp2_with fail
    go_ret2
    exact ⟨rfl, C1.out⟩
  | true =>
    rw [hm] at KM
    have e : sizeV2 x = .tuple #[.int .i64 (pagesN x.text.size : Nat), .int .i64 (pagesN (x.data.size + x.bss.toNat) : Nat)] := by unfold sizeV2; rw [if_pos hm]
    rw [e]
    obtain ⟨m1, m2, m3, m4, m5, m6, m7, m8, m9, m10⟩ := may_nums hm
    obtain ⟨en, text, data, bs⟩ := x
    obtain ⟨b, rfl⟩ := Int.eq_ofNat_of_zero_le m8
    have m9' : b ≤ 4096 := by have : ((b : Nat) : Int) ≤ 4096 := m9; omega
    simp only [Int.toNat_natCast]
    have C0 := Lib.hid ((Chg.refl (fun _ => False) w).alloc (.cells #[.int .i64 en, .string text, .string data, .int .i64 (b : Int)] 23))
    have hB := Blk.new w #[.int .i64 en, .string text, .string data, .int .i64 (b : Int)] 23
    unfold Prg.val at *
    simp only at *
    have HB := Lib.hid hB
    clear hB
    generalize hn : text.size = n at *
    generalize hd : data.size = d at *
    have K1 := Lib.hid (fun W => p_paged W n (by omega))
    have K2 := fun W => p_paged W (d + b) (by omega)
    rw [show ((d + b : Nat) : Int) = (d : Int) + (b : Int) from by omega] at K2
    have K2 := Lib.hid K2
    have ws : IntKind.i64.wrap ((d : Int) + (b : Int)) = (d : Int) + (b : Int) := i64_wrap_eq rfl (by omega)
    have ws2 : wrap64 ((d : Int) + (b : Int)) = (d : Int) + (b : Int) := by unfold wrap64; omega
    generalize pagesN n = pn at *
    generalize pagesN (d + b) = pd at *
    clear m1 m2 m3 m4 m5 m6 m7 m8 m9 m10 m9' hm e h
    go_enter Tryz.func26, Tryz.ntmps26
    go_wp2_with fail
    refine (KM.out _).mono ?_
    rintro e w1 ⟨rfl, c1⟩
    have C1 := Lib.hid (C0.out.trans c1)
    have B1 := c1.blk HB.out (fun a => a)
    have x1 := B1.cellv 1 _ rfl
    have x2 := B1.cellv 2 _ rfl
    have x3 := B1.cellv 3 _ rfl
    clear c1 B1
    go_wp2_with fail
    go_quiet ((go_at_call 54; (first | exact quiet_left (K1.out _) | exact quiet_left (K2.out _))))
    go_wp2_with fail
    go_ret2
    exact ⟨rfl, C1.out.drewN _⟩
end Go.Proofs.YtijooajhjcfneaaGreat

namespace Go.Proofs.YtijooajhjcfneaaGreat
open Go.RowKit

def magicB : ByteArray := ⟨#[66, 75, 80, 1]⟩
/-- the head of a file: so many of its words -/
def hdB (x : Prg) : Nat → ByteArray
  | 0 => magicB
  | 1 => magicB ++ wBytes x.entry.toNat 4
  | 2 => magicB ++ wBytes x.entry.toNat 4 ++ wBytes x.text.size 4
  | 3 => magicB ++ wBytes x.entry.toNat 4 ++ wBytes x.text.size 4 ++ wBytes x.data.size 4
  | _ => magicB ++ wBytes x.entry.toNat 4 ++ wBytes x.text.size 4 ++ wBytes x.data.size 4 ++ wBytes x.bss.toNat 4
/-- a program's file -/
def encB (x : Prg) : ByteArray := hdB x 4 ++ zerosB 12 ++ x.text ++ x.data
theorem w4_size (v : Nat) : (wBytes v 4).size = 4 := by rw [wBytes_size]; rfl
theorem magic_size : magicB.size = 4 := by decide
theorem hdB_size (x : Prg) : (hdB x 0).size = 4 ∧ (hdB x 1).size = 8 ∧ (hdB x 2).size = 12 ∧ (hdB x 3).size = 16 ∧ (hdB x 4).size = 20 := by
  unfold hdB
  simp only [ByteArray.size_append, w4_size, magic_size]
  exact ⟨trivial, trivial, trivial, trivial, trivial⟩
theorem zerosB_size (n : Nat) : (zerosB n).size = n := by rw [Lib.size_eq]; show (List.replicate n (0 : UInt8)).toArray.toList.length = n; simp
theorem encB_size (x : Prg) : (encB x).size = 32 + x.text.size + x.data.size := by
  unfold encB
  rw [ByteArray.size_append, ByteArray.size_append, ByteArray.size_append, zerosB_size, (hdB_size x).2.2.2.2]
def encV (x : Prg) : Value := if x.may = true then .tuple #[.string (encB x), .int .i64 0] else .tuple #[.string ⟨#[]⟩, .int .i64 6]
theorem hd_step (x : Prg) : hdB x 0 ++ wBytes x.entry.toNat 4 = hdB x 1 ∧ hdB x 1 ++ wBytes x.text.size 4 = hdB x 2 ∧ hdB x 2 ++ wBytes x.data.size 4 = hdB x 3 ∧ hdB x 3 ++ wBytes x.bss.toNat 4 = hdB x 4 := ⟨rfl, rfl, rfl, rfl⟩
theorem idx4 (W : World) (cs : Array Value) (k : Nat) (hk : k < 4) (v : Value) (hv : cs[k]? = some v) : (Instr.index 123 (.agg cs) (.int .i64 (k : Nat))).run Tryz.prog W = .ok v W := by
  have hb : (k : Int) < 4 := by omega
  simp [Instr.index, run_underlying Tryz.underlying123, asIntOf, hb, part, hv, go_sem]
  intro h; omega
theorem add_fit (W : World) (a b : ByteArray) (h : a.size + b.size ≤ 100000) : (Op.stringOp .add a b).run Tryz.prog W = .ok (.string (a ++ b)) W := run_string_add_sum W _ _ (by omega)
set_option maxRecDepth 100000 in
set_option maxHeartbeats 1600000 in
theorem p_encode (w : World) (x : Prg) (h : x.Small) :
    Calls Tryz.prog 22 #[x.val] w fun r w' => r = .returned (encV x) ∧ Chg (fun _ => False) w w' := by
  have KM := fun W => p_may W x h
  cases hm : x.may with
  | false =>
    rw [hm] at KM
    have KM := Lib.hid KM
    have e : encV x = .tuple #[.string ⟨#[]⟩, .int .i64 6] := by unfold encV; rw [hm]; rfl
    rw [e]
    have C0 := Lib.hid ((Chg.refl (fun _ => False) w).alloc (.cells #[.int .i64 x.entry, .string x.text, .string x.data, .int .i64 x.bss] 23))
    unfold Prg.val at *
    go_enter Tryz.func22, Tryz.ntmps22
    go_wp2_with fail
    refine (KM.out _).mono ?_
    rintro e w1 ⟨rfl, c1⟩
    have C1 := Lib.hid (C0.out.trans c1); clear c1
    go_wp2_with fail
    go_ret2
    exact ⟨rfl, C1.out⟩
  | true =>
    rw [hm] at KM
    have KM := Lib.hid KM
    have e : encV x = .tuple #[.string (encB x), .int .i64 0] := by unfold encV; rw [if_pos hm]
    rw [e]
    obtain ⟨m1, m2, m3, m4, m5, m6, m7, m8, m9, m10⟩ := may_nums hm
    have FIN := Lib.hid (show hdB x 4 ++ zerosB 12 ++ x.text ++ x.data = encB x from rfl)
    obtain ⟨s0, s1, s2, s3, s4⟩ := hdB_size x
    obtain ⟨a1, a2, a3, a4⟩ := hd_step x
    have hz0 : hdB x 0 = ⟨#[66, 75, 80, 1]⟩ := rfl
    generalize encB x = EB at *
    obtain ⟨en, text, data, bs⟩ := x
    simp only at m1 m2 m3 m4 m5 m6 m7 m8 m9 m10 a1 a2 a3 a4
    obtain ⟨b, rfl⟩ := Int.eq_ofNat_of_zero_le m8
    obtain ⟨en, rfl⟩ := Int.eq_ofNat_of_zero_le m4
    simp only [Int.toNat_natCast] at a1 a2 a3 a4
    have C0 := Lib.hid ((Chg.refl (fun _ => False) w).alloc (.cells #[.int .i64 (en : Int), .string text, .string data, .int .i64 (b : Int)] 23))
    have HB := Lib.hid (Blk.new w #[.int .i64 (en : Int), .string text, .string data, .int .i64 (b : Int)] 23)
    generalize hdB ⟨(en : Int), text, data, (b : Int)⟩ = H at *
    unfold Prg.val at *
    simp only at KM FIN
    obtain ⟨n, hn⟩ : ∃ n, n = text.size := ⟨_, rfl⟩
    obtain ⟨d, hd⟩ : ∃ d, d = data.size := ⟨_, rfl⟩
    rw [← hn] at m1 m2 m3 m5 m10 a2; rw [← hd] at m7 m10 a3
    have KB := Lib.hid (fun W (v : Nat) (hv : v < 18446744073709551616) => word_bytes W v hv 4)
    have v1 : IntKind.u64.wrap (en : Int) = (en : Int) := u64_wrap_lt en (by omega)
    have v2 : IntKind.u64.wrap (n : Int) = (n : Int) := u64_wrap_lt n (by omega)
    have v3 : IntKind.u64.wrap (d : Int) = (d : Int) := u64_wrap_lt d (by omega)
    have v4 : IntKind.u64.wrap (b : Int) = (b : Int) := u64_wrap_lt b (by omega)
    have p1 := fun W => add_fit W (H 0) (wBytes en 4) (by rw [s0, w4_size]; decide)
    have p2 := fun W => add_fit W (H 1) (wBytes n 4) (by rw [s1, w4_size]; decide)
    have p3 := fun W => add_fit W (H 2) (wBytes d 4) (by rw [s2, w4_size]; decide)
    have p4 := fun W => add_fit W (H 3) (wBytes b 4) (by rw [s3, w4_size]; decide)
    rw [a1] at p1; rw [a2] at p2; rw [a3] at p3; rw [a4] at p4
    have p5 := fun W => add_fit W (H 4) (zerosB 12) (by rw [s4, zerosB_size]; decide)
    have p6 := fun W => add_fit W (H 4 ++ zerosB 12) text (by rw [ByteArray.size_append, s4, zerosB_size, ← hn]; omega)
    have p7 := fun W => add_fit W (H 4 ++ zerosB 12 ++ text) data (by rw [ByteArray.size_append, ByteArray.size_append, s4, zerosB_size, ← hn, ← hd]; omega)
    rw [FIN.out] at p7
    have KB1 := Lib.hid (fun W => KB.out W en (by omega))
    have KB2 := fun W => KB.out W n (by omega)
    have KB3 := fun W => KB.out W d (by omega)
    have KB4 := Lib.hid (fun W => KB.out W b (by omega))
    have KR := Lib.hid rep12
    generalize wBytes en 4 = B1 at *
    generalize wBytes n 4 = B2 at *
    generalize wBytes d 4 = B3 at *
    generalize wBytes b 4 = B4 at *
    generalize zerosB 12 = Z at *
    have w12 : wrap64 (32 - (20 : Int)) = 12 := by unfold wrap64; omega
    clear m1 m2 m3 m4 m5 m6 m7 m8 m9 m10 hm e h a1 a2 a3 a4 KB FIN
    have i0 := fun W => idx4 W #[.int .i64 (en : Int), .int .i64 (n : Int), .int .i64 (d : Int), .int .i64 (b : Int)] 0 (by omega) _ rfl
    have i1 := fun W => idx4 W #[.int .i64 (en : Int), .int .i64 (n : Int), .int .i64 (d : Int), .int .i64 (b : Int)] 1 (by omega) _ rfl
    have i2 := fun W => idx4 W #[.int .i64 (en : Int), .int .i64 (n : Int), .int .i64 (d : Int), .int .i64 (b : Int)] 2 (by omega) _ rfl
    have i3 := fun W => idx4 W #[.int .i64 (en : Int), .int .i64 (n : Int), .int .i64 (d : Int), .int .i64 (b : Int)] 3 (by omega) _ rfl
    rw [hn, hd] at i0 i1 i2 i3
    rw [show ((0 : Nat) : Int) = 0 from rfl] at i0; rw [show ((1 : Nat) : Int) = 1 from rfl] at i1; rw [show ((2 : Nat) : Int) = 2 from rfl] at i2; rw [show ((3 : Nat) : Int) = 3 from rfl] at i3
    rw [hn] at v2 KB2; rw [hd] at v3 KB3
    clear hn hd
    have HZ := Lib.hid hz0
    clear hz0
    go_enter Tryz.func22, Tryz.ntmps22
    go_wp2_with fail
    refine (KM.out _).mono ?_
    rintro e w1 ⟨rfl, c1⟩
    have C1 := Lib.hid (C0.out.trans c1)
    have B1k := Lib.hid (c1.blk HB.out (fun a => a))
    have x0 := B1k.out.cellv 0 _ rfl
    have x1 := B1k.out.cellv 1 _ rfl
    have x2 := B1k.out.cellv 2 _ rfl
    have x3 := B1k.out.cellv 3 _ rfl
    clear c1
    go_wp2_with fail
    go_loopw [4, 21] (fun t i wr => ∃ k : Nat, k ≤ 4 ∧ i = .int .i64 k ∧ t = .string (H k) ∧ Hid (Chg (fun _ => False) w1 wr)) (fun _ i _ => 4 - (intOf i).toNat)
    case atStart => exact ⟨0, by omega, rfl, by rw [HZ.out], Lib.hid (Chg.refl _ _)⟩
    case round =>
      obtain ⟨k, hk, rfl, rfl, HC⟩ := hrel
      have hk5 : k = 0 ∨ k = 1 ∨ k = 2 ∨ k = 3 ∨ k = 4 := by omega
      rcases hk5 with rfl | rfl | rfl | rfl | rfl
      · go_wp2_with fail
        refine (KB1.out _).mono ?_
        rintro e w3 ⟨rfl, c3⟩
        have C3 := Lib.hid (HC.out.trans c3); clear c3
        go_wp2_with fail
        go_roundw
        case rel => exact ⟨1, by omega, by go_num, rfl, C3⟩
        case measure => simp [intOf]
      · go_wp2_with fail
        refine (KB2 _).mono ?_
        rintro e w3 ⟨rfl, c3⟩
        have C3 := Lib.hid (HC.out.trans c3); clear c3
        go_wp2_with fail
        go_roundw
        case rel => exact ⟨2, by omega, by go_num, rfl, C3⟩
        case measure => simp [intOf]
      · go_wp2_with fail
        refine (KB3 _).mono ?_
        rintro e w3 ⟨rfl, c3⟩
        have C3 := Lib.hid (HC.out.trans c3); clear c3
        go_wp2_with fail
        go_roundw
        case rel => exact ⟨3, by omega, by go_num, rfl, C3⟩
        case measure => simp [intOf]
      · go_wp2_with fail
        refine (KB4.out _).mono ?_
        rintro e w3 ⟨rfl, c3⟩
        have C3 := Lib.hid (HC.out.trans c3); clear c3
        go_wp2_with fail
        go_roundw
        case rel => exact ⟨4, by omega, by go_num, rfl, C3⟩
        case measure => simp [intOf]
      · have B2k := Lib.hid (HC.out.blk B1k.out (fun a => a))
        have x1 := B2k.out.cellv 1 _ rfl
        have x2 := B2k.out.cellv 2 _ rfl
        have KR1 := Lib.hid (KR.out wr.drew)
        go_wp2_with fail
        go_region_held3 (fun w' => w'.cell? ⟨w.heap.size, 1, none⟩ = some (.string text) ∧ w'.cell? ⟨w.heap.size, 2, none⟩ = some (.string data)) (first | assumption | exact ⟨x1, x2⟩ | (simp [*]; done))
          (first
            | (go_at_call 48; refine KR1.out.mono ?_; rintro e v1 ⟨rfl, c5⟩; have cT : v1.cell? ⟨w.heap.size, 1, none⟩ = some (.string text) ∧ v1.cell? ⟨w.heap.size, 2, none⟩ = some (.string data) := ⟨(c5.blk B2k.out.drew (fun a => a)).cellv 1 _ rfl, (c5.blk B2k.out.drew (fun a => a)).cellv 2 _ rfl⟩; have C5 := Lib.hid ((C1.out.trans HC.out).drew.trans c5); clear c5))
        go_wp2_with fail
        go_ret2
        exact ⟨rfl, C5.out⟩
end Go.Proofs.YtijooajhjcfneaaGreat
