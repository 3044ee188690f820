/-
  A program's file that was spoilt is none: in plain bytes; and bytes of a text that are changed, back as a text.
-/
import Derived.Test.YtijooajhjcfneaaQPgShown
import Derived.Lib.ConvBytes
namespace Go.Proofs.Ytijooajhjcfneaa
open Go.RowKit

theorem byt_ext (s : ByteArray) (a b k : Nat) (hb : b ≤ s.size) (hk : a + k < b) : byt (s.extract a b) k = byt s (a + k) := by
  unfold byt
  rw [ByteArray.data_extract, Array.toList_extract]
  rw [List.extract_eq_take_drop]
  simp only [List.getD]
  rw [List.getElem?_take_of_lt (by omega), List.getElem?_drop]
theorem ext_left (s t : ByteArray) (a b : Nat) (ha : a ≤ s.size) (hb : b ≤ s.size) : (s ++ t).extract a b = s.extract a b := by
  rw [ByteArray.extract_append, show a - s.size = 0 by omega, show b - s.size = 0 by omega]
  apply ByteArray.ext
  simp
theorem notF_app {x : Prg} (hx : x.may = true) : ¬ IsF (encB x ++ ⟨#[120]⟩) := by
  intro h
  obtain ⟨n1, n2, n3, n4, n5, n6⟩ := h.nums
  obtain ⟨m1, m2, m3, m4, m5, m6, m7, m8, m9, m10⟩ := may_nums hx
  obtain ⟨_, _, q3, q4, _⟩ := enc_parts x
  have hz := encB_size x
  have e1 := ext_left (encB x) ⟨#[120]⟩ 8 12 (by omega) (by omega)
  have e2 := ext_left (encB x) ⟨#[120]⟩ 12 16 (by omega) (by omega)
  rw [e1, e2, q3, q4, wOf_w4 _ (by omega), wOf_w4 _ (by omega), ByteArray.size_append, hz] at n4
  have : (⟨#[120]⟩ : ByteArray).size = 1 := rfl
  omega
theorem notF_cut {x : Prg} (hx : x.may = true) : ¬ IsF ((encB x).extract 0 ((encB x).size - 1)) := by
  intro h
  obtain ⟨n1, n2, n3, n4, n5, n6⟩ := h.nums
  obtain ⟨m1, m2, m3, m4, m5, m6, m7, m8, m9, m10⟩ := may_nums hx
  obtain ⟨_, _, q3, q4, _⟩ := enc_parts x
  have hz := encB_size x
  have ee : ∀ a b, b ≤ (encB x).size - 1 → ((encB x).extract 0 ((encB x).size - 1)).extract a b = (encB x).extract a b := fun a b hb => by
    rw [ByteArray.extract_extract, Nat.zero_add, Nat.zero_add, Nat.min_eq_left hb]
  rw [ee 8 12 (by omega), ee 12 16 (by omega), q3, q4, wOf_w4 _ (by omega), wOf_w4 _ (by omega), ByteArray.size_extract, hz] at n4
  omega
theorem notF_byte {x : Prg} (hx : x.may = true) {s' : ByteArray} (hs : s'.size = (encB x).size) {pl : Nat} (hp : pl < 4 ∨ 20 ≤ pl ∧ pl < 32) (hne : byt s' pl ≠ byt (encB x) pl) : ¬ IsF s' := by
  intro h
  obtain ⟨m1, m2, m3, m4, m5, m6, m7, m8, m9, m10⟩ := may_nums hx
  obtain ⟨p1, _, _, _, _, p6, _⟩ := enc_parts x
  obtain ⟨r1, _, _, _, _, r6, _⟩ := enc_parts (xOf s')
  rw [h.2] at r1 r6
  have hz := encB_size x
  apply hne
  rcases hp with hp | ⟨hp1, hp2⟩
  · have e1 := byt_ext s' 0 4 pl (by omega) (by omega)
    have e2 := byt_ext (encB x) 0 4 pl (by omega) (by omega)
    rw [r1] at e1
    rw [p1] at e2
    rw [Nat.zero_add] at e1 e2
    rw [← e1, ← e2]
  · have e1 := byt_ext s' 20 32 (pl - 20) (by omega) (by omega)
    have e2 := byt_ext (encB x) 20 32 (pl - 20) (by omega) (by omega)
    rw [r6] at e1
    rw [p6] at e2
    rw [show 20 + (pl - 20) = pl by omega] at e1 e2
    rw [← e1, ← e2]
/-- the bytes of a text, one of them another -/
def spN (s : ByteArray) (pl c : Nat) : List Nat := (List.range s.size).map fun j => if j = pl then c else byt s j
def spB (s : ByteArray) (pl c : Nat) : ByteArray := strOfNums ((spN s pl c).map fun x : Nat => (x : Int))
theorem spB_size (s : ByteArray) (pl c : Nat) : (spB s pl c).size = s.size := by unfold spB spN; rw [strOfNums_size]; simp
theorem spB_at (s : ByteArray) (pl c : Nat) (hp : pl < s.size) (hc : c < 256) : byt (spB s pl c) pl = c := by
  unfold spB
  rw [byt_strOfNums _ (fun x hx => ?_) pl (by unfold spN; simpa using hp)]
  · unfold spN; simp
  · unfold spN at hx
    obtain ⟨j, _, rfl⟩ := List.mem_map.1 hx
    split
    · exact hc
    · exact byt_lt _ _
/-- a text's bytes, made a slice: beside all that was there -/
structure SpK (w0 : World) (s : ByteArray) (g : Nat) (W : World) : Prop where
  cell : ∀ j, j < s.size → W.cell? ⟨g, j, none⟩ = some (.int .u8 (byt s j : Nat))
  free : ∀ j, j < s.size → W.frozen? ⟨g, j, none⟩ = false
  lt : g < W.heap.size
  ge : w0.heap.size ≤ g
  chg : Chg (fun _ => False) w0 W
theorem SpK.made (w : World) (s : ByteArray) : SpK w s w.heap.size (Lib.bytesWorld w 5 s) := by
  refine ⟨fun j hj => Lib.bytesWorld_cell w _ s j hj, fun j hj => ?_, by rw [Lib.bytesWorld_size]; omega, Nat.le_refl _, ⟨rfl, ?_, rfl, by rw [Lib.bytesWorld_size]; omega, fun k hk _ => Lib.bytesWorld_at_old w _ s k hk⟩⟩
  · have hz : s.size ≤ (Lib.bytesCells w 5 s).size := by unfold Lib.bytesCells; simp
    simp only [World.frozen?, Lib.bytesWorld_at_new]
    simp
    omega
  · rfl
theorem conv_sb (W : World) (s : ByteArray) : (convert 9 55 (.string s)).run Try.prog W = .ok (.slice (some ⟨W.heap.size, 0, none⟩) s.size (grownCap W s.size 0 5)) (Lib.bytesWorld W 5 s) :=
  Lib.run_convert_string_bytes W 9 55 5 s Try.underlying9 Try.underlying55 Try.underlying5
theorem conv_bs {w0 W : World} {s : ByteArray} {g cap pl c : Nat} (h : SpK w0 s g W) (hp : pl < s.size) :
    (convert 55 9 (.slice (some ⟨g, 0, none⟩) s.size cap)).run Try.prog (W.setCell ⟨g, pl, none⟩ (.int .u8 (c : Nat))) = .ok (.string (spB s pl c)) (W.setCell ⟨g, pl, none⟩ (.int .u8 (c : Nat))) := by
  refine run_convert_bytes_arg _ 55 5 Try.underlying55 Try.underlying5 g 0 s.size cap ((spN s pl c).map fun x : Nat => (x : Int)) (by unfold spN; simp) (fun i hi => ?_) 9 Try.underlying9
  rw [Nat.zero_add]
  have e : ((spN s pl c).map fun x : Nat => (x : Int)).getD i 0 = ((if i = pl then c else byt s i : Nat) : Int) := by
    unfold spN
    simp [List.getD, hi]
  rw [e]
  by_cases hq : i = pl
  · rw [if_pos hq, hq]
    exact World.cell?_setCell_same _ _ _ (h.cell pl hp)
  · rw [if_neg hq, World.cell?_setCell_other _ _ _ _ (fun e => hq (by cases e; rfl))]
    exact h.cell i hi
theorem SpK.set {w0 W : World} {s : ByteArray} {g pl : Nat} {v : Value} (h : SpK w0 s g W) : Chg (fun _ => False) w0 (W.setCell ⟨g, pl, none⟩ v) := h.chg.setCell _ _ (.inr h.ge)
end Go.Proofs.Ytijooajhjcfneaa
