/-
  strings.Repeat of twelve noughts, by its contract.
-/
import Derived.Test.YtijooajhjcfneaaG12
import Derived.Shelf.Strings.Repeat
namespace Go.Proofs.Ytijooajhjcfneaa
open Go.RowKit

theorem chg_of_below {w w' : World} (h : Below w.heap.size w w') : Chg (fun _ => False) w w' := ⟨h.os, h.tape, h.output, h.size, fun i hi _ => h.block i hi⟩
theorem b_check_f {B b : Nat} {bs : List Value} {w : World} (h : Lib.IsBuilderF 97 5 B b bs w) :
    Calls Try.prog 60 #[.pointer (some ⟨b, 0, none⟩)] w fun e w' => e = .returned (.tuple #[]) ∧ Lib.BuilderAtF 97 5 B b (.pointer (some ⟨b, 0, none⟩)) bs w' ∧ Below B w w' := by
  rcases h with h | h
  · refine (b_check_fresh b w h.cell0 h.shape h.frozen0).mono ?_
    rintro r w' ⟨rfl, rfl⟩
    exact ⟨rfl, h.used _, (Below.refl B w).setCell (p := ⟨b, 0, none⟩) h.1 _⟩
  · refine (b_check_used b w h.cell0).mono ?_
    rintro r w' ⟨rfl, rfl⟩
    exact ⟨rfl, h, Below.refl B w'⟩
set_option maxHeartbeats 2000000 in
set_option maxRecDepth 100000 in
/-- WriteString at a builder that may have been read -/
theorem b_write_f (B b : Nat) (bs : List Value) (s : ByteArray) (w : World) (h : Lib.IsBuilderF 97 5 B b bs w) (hlen : bs.length + s.size ≤ 140737488355328) (hBw : B ≤ w.heap.size) :
    Calls Try.prog 44 #[.pointer (some ⟨b, 0, none⟩), .string s] w fun e w' => e = .returned (.tuple #[.int .i64 s.size, .nilIface]) ∧ (Lib.BuilderAtF 97 5 B b (.pointer (some ⟨b, 0, none⟩)) (bs ++ Lib.strCells s) w' ∧ Below B w w') := by
  obtain ⟨i0, hi, hz0, hz1, hz2⟩ := info_parts Try.infoByte8
  have KC := Lib.hid (b_check_f h)
  go_enter Try.func44, Try.ntmps44
  go_wp2_with fail
  refine KC.out.mono ?_
  rintro e w1 ⟨rfl, ⟨hB, v, hbk, hown, hne⟩, hb1⟩
  have hBw1 : B ≤ w1.heap.size := Nat.le_trans hBw hb1.size
  have c0 : w1.cell? ⟨b, 0, none⟩ = some (.pointer (some ⟨b, 0, none⟩)) := by rw [Lib.cell_of_heap hbk]; rfl
  have c1 : w1.cell? ⟨b, 1, none⟩ = some v := by rw [Lib.cell_of_heap hbk]; rfl
  go_wp2_with (at_builtin; refine Lib.wpList_append_own_stringF _ rfl _ _ 55 9 rfl B 5 i0 Try.underlying55 Try.underlying9 hi hz0 hz1 hz2 _ _ _ rfl hown s rfl ?c3 ?c4 ?c5 ?_)
  case c3 => unfold maxLen; omega
  case c4 => omega
  case c5 => exact hBw1
  intro v' w2 hown' hgrow _
  have hlt : b < w1.heap.size := by
    rcases Nat.lt_or_ge b w1.heap.size with h' | h'
    · exact h'
    · simp [Array.getElem?_eq_none h'] at hbk
  have hb2 : w2.heap[b]? = some (.cells #[.pointer (some ⟨b, 0, none⟩), v] 97 (0, 0)) := by
    rw [hgrow.block b hlt (fun e => hne e.symm)]
    exact hbk
  have d0 : w2.cell? ⟨b, 0, none⟩ = some (.pointer (some ⟨b, 0, none⟩)) := by rw [Lib.cell_of_heap hb2]; rfl
  have d1 : w2.cell? ⟨b, 1, none⟩ = some v := by rw [Lib.cell_of_heap hb2]; rfl
  have f1 : w2.frozen? ⟨b, 1, none⟩ = false := Lib.frozen_of_heap hb2 1
  obtain ⟨ao, n', cap, rfl⟩ : ∃ ao n' cap, v' = .slice ao n' cap := by
    rcases hown'.2 with ⟨hv, _⟩ | ⟨g, cap, cur, fz, hv, _⟩
    · exact ⟨_, _, _, hv⟩
    · exact ⟨_, _, _, hv⟩
  have FIN := Lib.hid (show Lib.BuilderAtF 97 5 B b (.pointer (some ⟨b, 0, none⟩)) (bs ++ Lib.strCells s) (w2.setCell ⟨b, 1, none⟩ (.slice ao n' cap)) ∧ Below B w (w2.setCell ⟨b, 1, none⟩ (.slice ao n' cap)) from
    ⟨Lib.BuilderAtF.put (T := 97) (e := 5) hB hb2 (bs' := bs ++ Lib.strCells s) (by simpa [Lib.strCells_length] using hown') (by decide), hb1.trans (((Below.refl B w1).grown hgrow hBw1 (fun k hk => (hown.lt k hk).1)).setCell (p := ⟨b, 1, none⟩) hB _)⟩)
  clear hown hown' hgrow hbk hb2 hne KC hb1
  go_wp2_with fail
  go_ret2
  exact ⟨rfl, FIN.out⟩
/-- twelve noughts -/
def zerosB (n : Nat) : ByteArray := ⟨(List.replicate n (0 : UInt8)).toArray⟩
theorem rep_cells (q k : Nat) (h : k ≤ q) : Lib.byteCells (List.replicate q 0) ++ Lib.strCells ((zerosB q).extract 0 k) = Lib.byteCells (List.replicate (q + k) 0) := by
  rw [Lib.strCells_eq, ← Lib.byteCells_append, Lib.extract_data]
  congr 1
  show List.replicate q 0 ++ List.take (k - 0) (List.drop 0 (List.replicate q 0).toArray.toList) = _
  simp [List.take_replicate, Nat.min_eq_left h]
theorem rep_size (q k : Nat) (h : k ≤ q) : ((zerosB q).extract 0 k).size = k := by
  rw [Lib.size_eq, Lib.extract_data]
  show (List.take (k - 0) (List.drop 0 (List.replicate q 0).toArray.toList)).length = k
  simp [h]
set_option maxRecDepth 1000000 in
set_option maxHeartbeats 1600000 in
theorem rep12 (w : World) : Calls Try.prog 23 #[.string ⟨#[0]⟩, .int .i64 12] w fun e w' => e = .returned (.string (zerosB 12)) ∧ Chg (fun _ => False) w w' := by
  have hMul := Try.bits_Mul 1 12 (by omega) (by omega) w
  rw [show 1 * 12 / 18446744073709551616 = 0 from rfl, show 1 * 12 % 18446744073709551616 = 12 from rfl] at hMul
  have b0 : Below w.heap.size w (w.alloc (.cells #[.pointer none, .slice none 0 0] 97)) := (Below.refl _ w).alloc (Nat.le_refl _) _
  have cG := Try.Builder_Grow_fresh w.heap.size w.heap.size 12 (w.alloc (.cells #[.pointer none, .slice none 0 0] 97)) (Nat.le_refl _) (heap_alloc_new w _) b0.size (by omega)
  have hMul := Lib.hid hMul; have cG := Lib.hid cG; have B0 := Lib.hid b0
  clear b0
  go_enter Try.func23, Try.ntmps23
  go_wp2_with fail
  refine hMul.out.mono ?_
  rintro e w' ⟨rfl, rfl⟩
  go_wp2_with fail
  refine cG.out.mono ?_
  rintro e w1 ⟨rfl, h1, b1⟩
  have H1 := Lib.hid (show Lib.IsBuilderF 97 5 w'.heap.size w'.heap.size [] w1 from .inr (Lib.BuilderAtF.of h1))
  have B1 := Lib.hid (B0.out.trans b1)
  clear h1 b1 cG hMul
  have KW := Lib.hid (b_write_f w'.heap.size w'.heap.size [] ⟨#[0]⟩ w1 H1.out (by decide) B1.out.size)
  go_wp2_with fail
  refine KW.out.mono ?_
  rintro e w2 ⟨rfl, h2, b2⟩
  have H2 := Lib.hid (show Lib.IsBuilderF 97 5 w'.heap.size w'.heap.size (Lib.byteCells (List.replicate 1 0)) w2 from .inr h2)
  have B2 := Lib.hid (B1.out.trans b2)
  clear h2 b2 H1 B1 KW B0
  go_wp2_with fail
  go_loopg [] 11 (fun g wx => ∃ q : Nat, 1 ≤ q ∧ q + g = 12 ∧ Hid (Lib.IsBuilderF 97 5 w'.heap.size w'.heap.size (Lib.byteCells (List.replicate q 0)) wx) ∧ Hid (Below w'.heap.size w' wx))
  case atStart => exact ⟨1, Nat.le_refl _, rfl, H2, B2⟩
  case round =>
    obtain ⟨q, hq1, hqg, HQ, HB⟩ := hrel
    have hlq : (Lib.byteCells (List.replicate q 0)).length = q := by rw [Lib.byteCells_length, List.length_replicate]
    have cLen := Try.Builder_Len_f w'.heap.size w'.heap.size _ wr HQ.out
    rw [hlq] at cLen
    have cStr := Try.Builder_String_any_f w'.heap.size w'.heap.size (List.replicate q 0) wr HQ.out HB.out.size
    rw [show (⟨(List.replicate q (0 : UInt8)).toArray⟩ : ByteArray) = zerosB q from rfl] at cStr
    have hsz : (zerosB q).size = q := by rw [Lib.size_eq]; show (List.replicate q (0 : UInt8)).toArray.toList.length = q; simp
    have cLen := Lib.hid cLen; have cStr := Lib.hid cStr
    by_cases hlt : q < 12
    · have d1 : decide ((q : Int) < (12 : Int)) = true := decide_eq_true (by omega)
      obtain ⟨k, hk⟩ : ∃ k, k = min (12 - q) q := ⟨_, rfl⟩
      have hk1 : 1 ≤ k ∧ k ≤ q ∧ q + k ≤ 12 := by omega
      have hmin3 : ∀ (ts : Array TypeId) (t : TypeId) (W : World), (Builtin.min_ ts t #[.int .i64 (12 - (q : Int)), .int .i64 (q : Int), .int .i64 12]).run Try.prog W = .ok (.int .i64 (k : Int)) W := fun ts t W => by
        rw [run_min_int3]
        congr 2
        omega
      have KW := Lib.hid (fun (W : World) (H : Lib.IsBuilderF 97 5 w'.heap.size w'.heap.size (Lib.byteCells (List.replicate q 0)) W) (hb : Below w'.heap.size w' W) => b_write_f w'.heap.size w'.heap.size _ ((zerosB q).extract 0 k) W H (by rw [hlq, rep_size q k hk1.2.1]; omega) hb.size)
      have NX := Lib.hid (rep_cells q k hk1.2.1)
      generalize zerosB q = S at *
      have w1 : wrap64 (12 - (q : Int)) = 12 - (q : Int) := by unfold wrap64; omega
      have y1 : (k : Int) ≤ (S.size : Int) := by omega
      have y2 : (0 : Int) ≤ (k : Int) := by omega
      clear hk hlq
      go_wp2_with (first | (go_at_call 45; refine cLen.out.mono ?_; rintro e w3 ⟨rfl, hw⟩; rw [hw]; clear hw w3) | (go_at_call 46; refine cStr.out.mono ?_; rintro e w4 ⟨rfl, h3, b3⟩))
      have K3 := Lib.hid (KW.out w4 h3 (HB.out.trans b3))
      have B4 := Lib.hid (HB.out.trans b3)
      clear h3 b3
      refine K3.out.mono ?_
      rintro e w5 ⟨rfl, h5, b5⟩
      have H5 := Lib.hid (show Lib.IsBuilderF 97 5 w'.heap.size w'.heap.size (Lib.byteCells (List.replicate (q + k) 0)) w5 from .inr (by rw [← NX.out]; exact h5))
      have B5 := Lib.hid (B4.out.trans b5)
      clear h5 b5
      go_wp2_with fail
      go_roundg (12 - (q + k))
      case measure => omega
      case rel => exact ⟨q + k, by omega, by omega, H5, B5⟩
    · have hq : q = 12 := by omega
      subst hq
      clear hlq
      go_wp2_with (first | (go_at_call 45; refine cLen.out.mono ?_; rintro e w3 ⟨rfl, hw⟩; rw [hw]; clear hw w3) | (go_at_call 46; refine cStr.out.mono ?_; rintro e w4 ⟨rfl, h3, b3⟩))
      go_ret
      exact ⟨rfl, chg_of_below (HB.out.trans b3)⟩
end Go.Proofs.Ytijooajhjcfneaa
