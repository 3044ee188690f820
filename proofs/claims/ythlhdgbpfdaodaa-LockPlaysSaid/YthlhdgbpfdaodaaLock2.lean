/-
  Package lock: a lock in memory, and 'handed', which makes its map when it is first asked for.
-/
import Derived.Test.YthlhdgbpfdaodaaLock1
namespace Go.Proofs.Ythlhdgbpfdaodaa
open Go.RowKit Go.Maps

abbrev LkK : TypeId := 33
abbrev LkE : TypeId := 4
abbrev LkM : TypeId := 59
abbrev LkT : TypeId := 61
theorem lk_keyed : Keyed Try.prog LkK := int_keyed Try.underlying33

/-- the map of what was handed back: block bm reads as the tickets of bk -/
def LkMap (w : World) (bm n : Nat) (bk : Nat → Bool) : Prop :=
  ∃ D : DataW Unit, w.ownsMap Try.prog LkK (plainElem Try.prog LkE) bm n D ∧ ∀ t : Nat, D.atKey (.int .u64 t) (.lit (.bool false)) = .lit (.bool (bk t))

theorem LkMap.lt {w : World} {bm n : Nat} {bk : Nat → Bool} (h : LkMap w bm n bk) : bm < w.heap.size := by
  obtain ⟨D, h, _⟩ := h
  exact h.lt

/-- the map survives what does not touch its block -/
theorem LkMap.chg {S : Nat → Prop} {w w' : World} {bm n : Nat} {bk : Nat → Bool} (h : LkMap w bm n bk) (c : Chg S w w') (hn : ¬ S bm) : LkMap w' bm n bk := by
  have hlt := h.lt
  obtain ⟨D, h, e⟩ := h
  refine ⟨D, ?_, e⟩
  unfold World.ownsMap at h ⊢
  obtain ⟨es, clock, h1, h2⟩ := h
  exact ⟨es, clock, (c.block bm hlt hn).trans h1, h2⟩

/-- a lock whose map was made: block bm -/
def LkOld (w : World) (b : Nat) (wide next passed : Nat) (bk : Nat → Bool) (bm : Nat) : Prop :=
  Blk w b #[.int .u64 wide, .int .u64 next, .int .u64 passed, .int .u32 1, .int .i32 0, .int .u32 0, .map (some bm)] LkT ∧ bm ≠ b ∧ LkMap w bm passed bk

/-- a lock whose map was not asked for yet -/
def LkNew (w : World) (b : Nat) (wide next : Nat) : Prop :=
  Blk w b #[.int .u64 wide, .int .u64 next, .int .u64 (0 : Nat), .int .u32 0, .int .i32 0, .int .u32 0, .map none] LkT

theorem LkOld.chg {S : Nat → Prop} {w w' : World} {b wide next passed bm : Nat} {bk : Nat → Bool} (h : LkOld w b wide next passed bk bm) (c : Chg S w w') (hb : ¬ S b) (hm : ¬ S bm) : LkOld w' b wide next passed bk bm :=
  ⟨c.blk h.1 hb, h.2.1, h.2.2.chg c hm⟩

/-- what 'handed' comes to -/
def HandedPost (w : World) (b wide next passed : Nat) (bk : Nat → Bool) (fp : Nat → Prop) (e : Ending) (w' : World) : Prop :=
  ∃ bm, e = .returned (.map (some bm)) ∧ LkOld w' b wide next passed bk bm ∧ Chg fp w w' ∧ (fp bm ∨ w.heap.size ≤ bm)

theorem lk_handed_old (w : World) (b wide next passed bm : Nat) (bk : Nat → Bool) (h : LkOld w b wide next passed bk bm) :
    Calls Try.prog 21 #[.pointer (some ⟨b, 0, none⟩)] w (HandedPost w b wide next passed bk (fun k => k = b ∨ k = bm)) := by
  have hb := h.1.lt
  have H := Lib.hid h; clear h
  have c3 := H.out.1.cellv 3 _ rfl
  have c6 := H.out.1.cellv 6 _ rfl
  have hmf : ∀ (fn : Fn) (first cap : Array Value) (w : World), (Instr.makeFunc fn first cap).run Try.prog w = .ok (.func fn first cap) w := fun _ _ _ _ => rfl
  have a3 : (w.alloc (.cells #[.pointer (some ⟨b, 0, none⟩)] 24)).cell? ⟨b, 3, none⟩ = some (.int .u32 1) := by rw [World.cell?_alloc_past _ _ _ hb]; exact c3
  go_enter Try.func21, Try.ntmps21
  go_wp2_with (go_at_call 24; refine (sy_do_done ⟨b, 3, none⟩ _ _ a3).mono ?_; rintro e w' ⟨rfl, rfl⟩)
  go_ret
  have C : Chg (fun k => k = b ∨ k = bm) w (w.alloc (.cells #[.pointer (some ⟨b, 0, none⟩)] 24)) := (Chg.refl _ _).alloc _
  have C0 : Chg (fun _ => False) w (w.alloc (.cells #[.pointer (some ⟨b, 0, none⟩)] 24)) := (Chg.refl _ _).alloc _
  exact ⟨bm, rfl, H.out.chg C0 (fun h => h) (fun h => h), C, .inl (.inr rfl)⟩

/-- the closure that makes the map -/
theorem lk_handed1 (w : World) (b pl : Nat) (cs : Array Value) (h : Blk w b cs LkT) (hs : cs.size = 7) (hp : w.cell? ⟨pl, 0, none⟩ = some (.pointer (some ⟨b, 0, none⟩))) :
    Calls Try.prog 25 #[.pointer (some ⟨pl, 0, none⟩)] w fun e w' => e = .returned (.tuple #[]) ∧
      w' = (w.setCell ⟨b, 6, none⟩ (.map (some w.heap.size))).alloc (.map #[] 0) := by
  have hmm := @run_makeMap Try.prog
  have hb := h.lt
  have f6 := h.free 6
  obtain ⟨v, hv⟩ : ∃ v, cs[6]? = some v := ⟨_, Array.getElem?_eq_getElem (by omega)⟩
  have c6 := h.cellv 6 _ hv
  clear h hv
  go_enter Try.func25, Try.ntmps25
  go_wp2
  go_end0
  exact ⟨rfl, rfl⟩
end Go.Proofs.Ythlhdgbpfdaodaa
