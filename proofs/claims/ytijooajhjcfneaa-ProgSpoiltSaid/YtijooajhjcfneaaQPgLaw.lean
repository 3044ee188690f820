/-
  A program's file in plain bytes: what is written is read again, and nothing else is.
-/
import Derived.Test.YtijooajhjcfneaaQPgRef
namespace Go.Proofs.Ytijooajhjcfneaa
open Go.RowKit

theorem ext_app (a b c : ByteArray) (i j : Nat) (hi : i = a.size) (hj : j = a.size + b.size) : (a ++ b ++ c).extract i j = b := by
  subst hi hj
  have h1 : (a ++ b).size = a.size + b.size := ByteArray.size_append
  rw [ByteArray.extract_append, ByteArray.extract_append, h1]
  have e1 : a.extract a.size (a.size + b.size) = ⟨#[]⟩ := by
    apply ByteArray.ext
    rw [ByteArray.data_extract]
    apply Array.eq_empty_of_size_eq_zero
    rw [Array.size_extract]
    show min (a.size + b.size) a.size - a.size = 0
    omega
  have e2 : c.extract (a.size - (a.size + b.size)) (a.size + b.size - (a.size + b.size)) = ⟨#[]⟩ := by
    apply ByteArray.ext
    rw [ByteArray.data_extract]
    apply Array.eq_empty_of_size_eq_zero
    rw [Array.size_extract]
    omega
  rw [e1, e2, show a.size - a.size = 0 by omega, show a.size + b.size - a.size = b.size by omega, ext_all]
  apply ByteArray.ext
  simp
theorem wOf_w4 (v : Nat) (h : v < 4294967296) : wOf (wBytes v 4) = v := by
  rw [wOf_wBytes v (by omega) 4]
  have e : (8 * (wCount 4 : Int)) = 32 := by decide
  rw [e]
  unfold wLow
  simp
  omega
/-- the parts of a file -/
theorem enc_parts (x : Prg) : (encB x).extract 0 4 = magicB ∧ (encB x).extract 4 8 = wBytes x.entry.toNat 4 ∧ (encB x).extract 8 12 = wBytes x.text.size 4 ∧ (encB x).extract 12 16 = wBytes x.data.size 4 ∧ (encB x).extract 16 20 = wBytes x.bss.toNat 4 ∧ (encB x).extract 20 32 = zerosB 12 ∧ (encB x).extract 32 (32 + x.text.size) = x.text ∧ (encB x).extract (32 + x.text.size) (32 + x.text.size + x.data.size) = x.data := by
  have w := w4_size
  have m := magic_size
  have z := zerosB_size 12
  refine ⟨?_, ?_, ?_, ?_, ?_, ?_, ?_, ?_⟩
  · rw [show encB x = ⟨#[]⟩ ++ magicB ++ (wBytes x.entry.toNat 4 ++ wBytes x.text.size 4 ++ wBytes x.data.size 4 ++ wBytes x.bss.toNat 4 ++ zerosB 12 ++ x.text ++ x.data) from by unfold encB hdB; simp only [ByteArray.append_assoc]; apply ByteArray.ext; simp]
    exact ext_app _ _ _ _ _ rfl (by rw [m]; rfl)
  · rw [show encB x = magicB ++ wBytes x.entry.toNat 4 ++ (wBytes x.text.size 4 ++ wBytes x.data.size 4 ++ wBytes x.bss.toNat 4 ++ zerosB 12 ++ x.text ++ x.data) from by unfold encB hdB; simp only [ByteArray.append_assoc]]
    exact ext_app _ _ _ _ _ (by rw [m]) (by rw [m, w])
  · rw [show encB x = (magicB ++ wBytes x.entry.toNat 4) ++ wBytes x.text.size 4 ++ (wBytes x.data.size 4 ++ wBytes x.bss.toNat 4 ++ zerosB 12 ++ x.text ++ x.data) from by unfold encB hdB; simp only [ByteArray.append_assoc]]
    exact ext_app _ _ _ _ _ (by rw [ByteArray.size_append, m, w]) (by rw [ByteArray.size_append, m, w, w])
  · rw [show encB x = (magicB ++ wBytes x.entry.toNat 4 ++ wBytes x.text.size 4) ++ wBytes x.data.size 4 ++ (wBytes x.bss.toNat 4 ++ zerosB 12 ++ x.text ++ x.data) from by unfold encB hdB; simp only [ByteArray.append_assoc]]
    exact ext_app _ _ _ _ _ (by rw [ByteArray.size_append, ByteArray.size_append, m, w, w]) (by rw [ByteArray.size_append, ByteArray.size_append, m, w, w, w])
  · rw [show encB x = (magicB ++ wBytes x.entry.toNat 4 ++ wBytes x.text.size 4 ++ wBytes x.data.size 4) ++ wBytes x.bss.toNat 4 ++ (zerosB 12 ++ x.text ++ x.data) from by unfold encB hdB; simp only [ByteArray.append_assoc]]
    exact ext_app _ _ _ _ _ (by rw [ByteArray.size_append, ByteArray.size_append, ByteArray.size_append, m, w, w, w]) (by rw [ByteArray.size_append, ByteArray.size_append, ByteArray.size_append, m, w, w, w, w])
  · rw [show encB x = (hdB x 4) ++ zerosB 12 ++ (x.text ++ x.data) from by unfold encB; simp only [ByteArray.append_assoc]]
    exact ext_app _ _ _ _ _ (hdB_size x).2.2.2.2.symm (by rw [(hdB_size x).2.2.2.2, z])
  · rw [show encB x = (hdB x 4 ++ zerosB 12) ++ x.text ++ x.data from rfl]
    exact ext_app _ _ _ _ _ (by rw [ByteArray.size_append, (hdB_size x).2.2.2.2, z]) (by rw [ByteArray.size_append, (hdB_size x).2.2.2.2, z])
  · rw [show encB x = (hdB x 4 ++ zerosB 12 ++ x.text) ++ x.data ++ ⟨#[]⟩ from by unfold encB; apply ByteArray.ext; simp]
    exact ext_app _ _ _ _ _ (by rw [ByteArray.size_append, ByteArray.size_append, (hdB_size x).2.2.2.2, z]) (by rw [ByteArray.size_append, ByteArray.size_append, (hdB_size x).2.2.2.2, z])
theorem xOf_enc {x : Prg} (h : x.may = true) : xOf (encB x) = x := by
  obtain ⟨m1, m2, m3, m4, m5, m6, m7, m8, m9, m10⟩ := may_nums h
  obtain ⟨_, q2, q3, q4, q5, _, q7, q8⟩ := enc_parts x
  have hz := encB_size x
  have e1 : posP (encB x).size 0 4 = 4 := by unfold posP; omega
  have e2 : posP (encB x).size 4 4 = 8 := by unfold posP; omega
  have e3 : posP (encB x).size 8 4 = 12 := by unfold posP; omega
  have e4 : posP (encB x).size 12 4 = 16 := by unfold posP; omega
  have e5 : posP (encB x).size 16 4 = 20 := by unfold posP; omega
  have e6 : posP (encB x).size 20 12 = 32 := by unfold posP; omega
  have e7 : posP (encB x).size 32 x.text.size = 32 + x.text.size := by unfold posP; omega
  have e8 : posP (encB x).size (32 + x.text.size) x.data.size = 32 + x.text.size + x.data.size := by unfold posP; omega
  unfold xOf
  simp only
  rw [e1, e2, e3, e4, e5, e6, q2, q3, q4, q5, wOf_w4 _ (by omega), wOf_w4 _ (by omega), wOf_w4 _ (by omega), wOf_w4 _ (by omega), e7, e8, q7, q8]
  obtain ⟨en, text, data, b⟩ := x
  simp only at m4 m8 ⊢
  rw [Int.toNat_of_nonneg m4, Int.toNat_of_nonneg m8]
theorem encB_inj {x y : Prg} (hx : x.may = true) (hy : y.may = true) (h : encB x = encB y) : x = y := by rw [← xOf_enc hx, h, xOf_enc hy]
/-- bytes are a program's file -/
def IsF (s : ByteArray) : Prop := (xOf s).may = true ∧ encB (xOf s) = s
theorem IsF.of {x : Prg} (h : x.may = true) : IsF (encB x) := by
  unfold IsF
  rw [xOf_enc h]
  exact ⟨h, rfl⟩
theorem IsF.nums {s : ByteArray} (h : IsF s) : 36 ≤ s.size ∧ wOf (s.extract 8 12) = (xOf s).text.size ∧ wOf (s.extract 12 16) = (xOf s).data.size ∧ s.size = 32 + wOf (s.extract 8 12) + wOf (s.extract 12 16) ∧ wOf (s.extract 8 12) ≤ 2048 ∧ wOf (s.extract 12 16) ≤ 1024 := by
  obtain ⟨h1, h2⟩ := h
  obtain ⟨m1, m2, m3, m4, m5, m6, m7, m8, m9, m10⟩ := may_nums h1
  obtain ⟨_, q2, q3, q4, q5, _, q7, q8⟩ := enc_parts (xOf s)
  have hz := encB_size (xOf s)
  rw [h2] at q3 q4 hz
  rw [q3, q4, wOf_w4 _ (by omega), wOf_w4 _ (by omega)]
  exact ⟨by omega, rfl, rfl, hz, m2, m7⟩
end Go.Proofs.Ytijooajhjcfneaa
