/-
  Arguments opened: a struct of one-cell fields, by value.
-/
import Derived.Test.YtijooajhjcfneaaGreatOpen
namespace Go.Proofs.YtijooajhjcfneaaGreat
open Go.ChangeShapes Go.WideShapes Go.ChangeAt Go.RowKit Go.Deep

theorem SRow.chg {B : Nat} {w w' : World} {a : Option Addr} {len nf : Nat} {V : Nat → Nat → Value} (h : SRow w a len nf V) (hB : w.heap.size ≤ B) (c : Below B w w') : SRow w' a len nf V := by
  rcases h with h | ⟨b, off, h1, h2, h3⟩
  · exact .inl h
  · exact .inr ⟨b, off, h1, Nat.lt_of_lt_of_le h2 c.size, fun i hi j hj => (c.cell (Nat.lt_of_lt_of_le h2 hB)).trans (h3 i hi j hj)⟩

section
variable {H : Type} {enc : TypeId × Value → H} {P : Program} {w : World} {spare : Nat → Bool} {held : Bool}

/-- each field of a struct, by value -/
theorem open_agg {r : Reach} {b0 : Nat} {t : TypeId} {fs : Array Field} {v : Value} {d : DataW H} {p : List MemPlace} (hs : P.underlying t = some (.struct fs)) (hone : oneCellFields P fs = true) (hC : P.cellsOf t = fs.size)
    (hv : Value.okWide P w r b0 t v) (h : DataW.Trod enc P w 0 spare held t v d p) :
    ∃ cs : Array Value, v = .agg cs ∧ cs.size = fs.size ∧ ∀ (j : Nat) (f : Field), fs[j]? = some f → ∃ y n, DataW.trod enc P w 0 spare held n f.type [cs.getD j default] = some y := by
  obtain ⟨cs, rfl, hsz⟩ := okWide_struct hs hv
  obtain ⟨fuel, hf⟩ := h
  obtain ⟨ys, n', hn', hy, hlen, hyl, hf'⟩ := DataW.trod_struct hs hf
  refine ⟨cs, rfl, hsz.trans hC, fun j f hj => ?_⟩
  obtain ⟨ho, hk⟩ := hone_of hone j f hj
  have hjl : j < fs.size := (Array.getElem?_eq_some_iff.1 hj).1
  have h1 := hf' j f hj
  rw [ho, hk] at h1
  have hone' : (((Value.agg cs).cells.toList).drop j).take 1 = [cs.getD j default] := by
    simp only [Value.cells]
    have hl : j < cs.toList.length := by simp; omega
    rw [List.drop_eq_getElem_cons hl]
    simp [Array.getD, show j < cs.size by omega]
  rw [hone'] at h1
  have hys : ys[j]? = some (ys[j]'(by omega)) := List.getElem?_eq_getElem (by omega)
  exact ⟨_, _, h1.trans hys⟩

/-- how long a slice may be that is a field of a struct -/
theorem agg_slice_len {r : Reach} {b0 : Nat} {t u e : TypeId} {fs : Array Field} {cs : Array Value} {ts : List TypeId} (hs : P.underlying t = some (.struct fs)) (hct : P.cellTypes P.depth t = some ts)
    (hv : Value.okWide P w r b0 t (.agg cs)) {j : Nat} {a : Option Addr} {l c : Nat} (hc : cs[j]? = some (.slice a l c)) (hj : ts[j % ts.length]? = some u) (hu : P.underlying u = some (.slice e)) : l ≤ 9223372036854775807 := by
  simp only [Value.okWide, hs] at hv
  obtain ⟨cs', h1, _, ts', h3, _, h5⟩ := hv
  cases h1
  rw [hct] at h3
  cases h3
  obtain ⟨u', h6, h7⟩ := h5 j _ hc
  rw [hj] at h6
  cases h6
  rcases a with _ | a
  · rcases l with _ | l
    · omega
    · simp [Cell.okWide, hu, Cell.ok] at h7
  · simp [Cell.okWide, hu, Cell.ok, IntKind.max, IntKind.signed, IntKind.bits] at h7
    omega
end
end Go.Proofs.YtijooajhjcfneaaGreat
