/-
  The document's memory: Copy by its contract (below 0: Clear).
-/
import Derived.Test.YtodjmfmenfncdaaRefMem2
namespace Go.Proofs.Ytodjmfmenfncdaa
open Go.RowKit

/-- one frame's bytes, whatever they come from -/
theorem RM.cellg {w : World} {r g F t : Nat} {V : Nat → Nat} (h : RM w r g F V t) (i : Nat) (hi : i < F * 256) : w.cell? ⟨g, i, none⟩ = some (.int .u8 (V i : Nat)) := by
  obtain ⟨cs, hb, _, hv⟩ := h.row; exact hb.cellv _ _ (hv _ hi)
theorem RM.freeg {w : World} {r g F t : Nat} {V : Nat → Nat} (h : RM w r g F V t) (i : Nat) : w.frozen? ⟨g, i, none⟩ = false := by
  obtain ⟨cs, hb, _, _⟩ := h.row; exact hb.free _

end Go.Proofs.Ytodjmfmenfncdaa
