/-
  Arguments opened: slices of structs of one-cell fields, and of one-cell elements, as rows of cells; and how long they may be.
-/
import Derived.Test.YtijooajhjcfneaaGreatRows
import Derived.ProofKit
import Derived.OpenShut
import Derived.ShutString
import Derived.ChangeOld
import Derived.Below
import Derived.SizedLaws
import Derived.Deep.Slices
import Derived.Deep.Fields
import Derived.ChangeSame
namespace Go.Proofs.YtijooajhjcfneaaGreat
open Go.ChangeShapes Go.WideShapes Go.ChangeAt Go.RowKit Go.Deep

/-- len rows of nf cells each: row i holds V i 0, V i 1, .. -/
def SRow (w : World) (a : Option Addr) (len nf : Nat) (V : Nat → Nat → Value) : Prop :=
  len = 0 ∨ ∃ b off, a = some ⟨b, off, none⟩ ∧ b < w.heap.size ∧ ∀ i, i < len → ∀ j, j < nf → w.cell? ⟨b, off + (i * nf + j), none⟩ = some (V i j)

theorem addr_plain {w : World} {x : Addr} {v : Value} (h : w.cell? x = some v) : x = ⟨x.block, x.off, none⟩ := by
  obtain ⟨b, o, s⟩ := x
  unfold World.cell? at h
  split at h
  · cases s with
    | none => rfl
    | some s => simp at h
  · cases h

section
variable {H : Type} {enc : TypeId × Value → H} {P : Program} {w : World} {spare : Nat → Bool} {held : Bool}

theorem add_of {x : Addr} (hx : x = ⟨x.block, x.off, none⟩) (n : Nat) : x.add n = ⟨x.block, x.off + n, none⟩ := by
  unfold Addr.add
  split
  · rename_i h; subst h; exact hx
  · rfl

theorem open_slice_len {t e : TypeId} {a : Option Addr} {len cap : Nat} {d : DataW H} {ps : List MemPlace} (ht : P.underlying t = some (.slice e)) {ts : List TypeId} {ds : List (DataW H)} {k : Nat}
    (hsz : (DataW.weightsEach P ts ds).all (· ≤ reachBytes) = true) (hk : ts[k]? = some t) (hd : ds[k]? = some d) {B : Nat} (hB : P.bytesOf e = B)
    (h : DataW.Trod enc P w 0 spare held t (.slice a len cap) d ps) : len * B ≤ 140737488351232 := by
  obtain ⟨fuel, hf⟩ := h
  rcases open_slice ht hf with ⟨hcs, _⟩ | ⟨x, l, c, m, n, D, Pl, hcs, _, hl, _, hm, hx, hi⟩
  · simp [Value.cells] at hcs
    obtain ⟨rfl, rfl, rfl⟩ := hcs
    simp
  · simp [Value.cells] at hcs
    obtain ⟨rfl, rfl, rfl⟩ := hcs
    obtain ⟨hx, _⟩ := Prod.mk.inj hx
    subst hx
    have z := sized_slice hsz hk hd ht
    rw [hB] at z
    simp only [List.length_map, List.length_range] at z
    exact Nat.le_trans (Nat.mul_le_mul_right _ (by omega)) z

theorem open_srow {t e : TypeId} {fs : Array Field} {a : Option Addr} {len cap : Nat} {d : DataW H} {ps : List MemPlace} (ht : P.underlying t = some (.slice e)) (he : P.underlying e = some (.struct fs))
    (hone : oneCellFields P fs = true) (hC : P.cellsOf e = fs.size) (hp : 0 < fs.size)
    (h : DataW.Trod enc P w 0 spare held t (.slice a len cap) d ps) :
    ∃ V : Nat → Nat → Value, SRow w a len fs.size V ∧ ∀ i, i < len → ∀ (j : Nat) (f : Field), fs[j]? = some f → ∃ y n, DataW.trod enc P w 0 spare held n f.type [V i j] = some y := by
  obtain ⟨fuel, hf⟩ := h
  rcases open_slice ht hf with ⟨hcs, _⟩ | ⟨x, l, c, m, n, D, Pl, hcs, _, hl, _, hm, hx, hi⟩
  · simp [Value.cells] at hcs
    obtain ⟨rfl, rfl, rfl⟩ := hcs
    exact ⟨fun _ _ => default, .inl rfl, fun i hi => by omega⟩
  · simp [Value.cells] at hcs
    obtain ⟨rfl, rfl, rfl⟩ := hcs
    have hlm : len ≤ m := by rw [hm]; split <;> omega
    rw [hC] at hi
    have each : ∀ i, i < len → ∃ cs : List Value, (∀ j, j < fs.size → w.cell? (x.add (i * fs.size + j)) = cs[j]? ∧ (cs[j]?).isSome = true) ∧
        ∀ (j : Nat) (f : Field), fs[j]? = some f → ∃ y n, DataW.trod enc P w 0 spare held n f.type [cs.getD j default] = some y := by
      intro i hil
      obtain ⟨cs', hc, ht'⟩ := hi i (by omega)
      obtain ⟨ys, n', hn', hy, hlen, hyl, hf'⟩ := DataW.trod_struct he ht'
      obtain ⟨_, hcl, hat⟩ := World.cells?_some hc
      refine ⟨cs', fun j hj => ?_, fun j f hj => ?_⟩
      · have := hat j hj
        rw [add_add] at this
        exact ⟨this, by simp; omega⟩
      · obtain ⟨ho, hk⟩ := hone_of hone j f hj
        have hjl : j < fs.size := (Array.getElem?_eq_some_iff.1 hj).1
        have h1 := hf' j f hj
        rw [ho, hk] at h1
        have hone' : (cs'.drop j).take 1 = [cs'.getD j default] := by
          have hg : cs'.getD j default = cs'[j]'(by omega) := by simp [List.getD, List.getElem?_eq_getElem (show j < cs'.length by omega)]
          rw [hg, List.drop_eq_getElem_cons (by omega)]
          rfl
        rw [hone'] at h1
        have hys : ys[j]? = some (ys[j]'(by omega)) := List.getElem?_eq_getElem (by omega)
        exact ⟨_, _, h1.trans hys⟩
    obtain ⟨F, hF⟩ := choose_lt each
    refine ⟨fun i j => (F i).getD j default, ?_, fun i hil j f hj => (hF i hil).2 j f hj⟩
    by_cases h0 : len = 0
    · exact .inl h0
    · right
      obtain ⟨hc0, hs0⟩ := (hF 0 (by omega)).1 0 hp
      obtain ⟨v0, hv0⟩ := Option.isSome_iff_exists.1 hs0
      rw [hv0] at hc0
      have hx0 : x = ⟨x.block, x.off, none⟩ := addr_plain (v := v0) (by simpa [Addr.add] using hc0)
      refine ⟨x.block, x.off, congrArg some hx0, ?_, fun i hil j hj => ?_⟩
      · have := World.block_lt_of_cell? w _ hc0
        simpa [add_of hx0] using this
      · obtain ⟨hc, hs⟩ := (hF i hil).1 j hj
        rw [add_of hx0] at hc
        obtain ⟨v, hv⟩ := Option.isSome_iff_exists.1 hs
        rw [hc, hv]
        simp [List.getD, hv]

/-- .. of elements of one cell -/
theorem open_srow1 {t e : TypeId} {a : Option Addr} {len cap : Nat} {d : DataW H} {ps : List MemPlace} (ht : P.underlying t = some (.slice e)) (hC : P.cellsOf e = 1)
    (h : DataW.Trod enc P w 0 spare held t (.slice a len cap) d ps) :
    ∃ V : Nat → Nat → Value, SRow w a len 1 V ∧ ∀ i, i < len → ∃ y n, DataW.trod enc P w 0 spare held n e [V i 0] = some y := by
  obtain ⟨fuel, hf⟩ := h
  rcases open_slice1 ht hC hf with ⟨hcs, _⟩ | ⟨x, l, c, m, n, V, D, Pl, hcs, _, hl, _, hm, hx, hi⟩
  · simp [Value.cells] at hcs
    obtain ⟨rfl, rfl, rfl⟩ := hcs
    exact ⟨fun _ _ => default, .inl rfl, fun i hi => by omega⟩
  · simp [Value.cells] at hcs
    obtain ⟨rfl, rfl, rfl⟩ := hcs
    have hlm : len ≤ m := by rw [hm]; split <;> omega
    refine ⟨fun i _ => V i, ?_, fun i hil => ⟨_, n, (hi i (by omega)).2⟩⟩
    by_cases h0 : len = 0
    · exact .inl h0
    · right
      have hc0 := (hi 0 (by omega)).1
      have hx0 : x = ⟨x.block, x.off, none⟩ := addr_plain (v := V 0) (by simpa [Addr.add] using hc0)
      refine ⟨x.block, x.off, congrArg some hx0, ?_, fun i hil j hj => ?_⟩
      · have := World.block_lt_of_cell? w _ hc0
        simpa [add_of hx0] using this
      · have hc := (hi i (by omega)).1
        rw [add_of hx0] at hc
        have hj0 : j = 0 := by omega
        subst hj0
        simpa using hc

/-- what a one-cell field that is a string holds -/
theorem field_string {t : TypeId} {v : Value} (ht : P.underlying t = some .string) (h : ∃ y n, DataW.trod enc P w 0 spare held n t [v] = some y) : ∃ s : ByteArray, v = .string s ∧ s.size ≤ maxLen := by
  obtain ⟨y, n, h⟩ := h
  obtain ⟨s, e0, _, hw⟩ := DataW.trod_string ht h
  simp at e0
  exact ⟨s, e0, hw⟩

/-- what a one-cell field of an integer kind holds -/
theorem field_int {t : TypeId} {k : IntKind} {v : Value} (ht : P.underlying t = some (.int k)) (h : ∃ y n, DataW.trod enc P w 0 spare held n t [v] = some y) : ∃ x : Int, v = .int k x ∧ (Lit.int k x).wf = true := by
  obtain ⟨y, n, h⟩ := h
  obtain ⟨x, e0, _, hw⟩ := DataW.trod_int ht h
  simp at e0
  exact ⟨x, e0, hw⟩

end
end Go.Proofs.YtijooajhjcfneaaGreat
