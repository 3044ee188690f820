/-
  Physical memory: what a phys.Mem is, and its bytes, made when they are first asked for.
-/
import Derived.Test.YtodjmfmenfncdaaWd
import Derived.Test.YtodjmfmenfncdaaOnce2
import Derived.Test.YtodjmfmenfncdaaWdOf
import Derived.Laws.MakeOwn
namespace Go.Proofs.Ytodjmfmenfncdaa
open Go.RowKit

def memC (F : Nat) (d : Int) (sv : Value) (t : Nat) : Array Value := #[.int .i64 F, .int .u32 d, .int .i32 0, .int .u32 0, sv, .int .u64 t]
def memS (g F : Nat) : Value := .slice (some ⟨g, 0, none⟩) (F * 256) (F * 256)
abbrev MemT : TypeId := 128
abbrev ByT : TypeId := 5

/-- a row of bytes -/
def Row (w : World) (g n : Nat) (V : Nat → Nat) : Prop := ∃ cs : Array Value, Blk w g cs ByT ∧ cs.size = n ∧ ∀ i, i < n → cs[i]? = some (.int .u8 (V i : Nat))

/-- a memory of F frames whose bytes are made -/
structure MemM (w : World) (p g F : Nat) (V : Nat → Nat) (t : Nat) : Prop where
  blk : Blk w p (memC F 1 (memS g F) t) MemT
  row : Row w g (F * 256) V
  ne : p ≠ g
  small : ∀ i, V i < 256
/-- a memory of F frames whose bytes aren't made yet -/
structure MemU (w : World) (p F : Nat) (t : Nat) : Prop where
  blk : Blk w p (memC F 0 (.slice none 0 0) t) MemT

theorem Row.lt {w : World} {g n : Nat} {V : Nat → Nat} (h : Row w g n V) : g < w.heap.size := by
  obtain ⟨cs, h1, _, _⟩ := h
  exact h1.lt
theorem Row.chg {S : Nat → Prop} {w w' : World} {g n : Nat} {V : Nat → Nat} (h : Row w g n V) (c : Chg S w w') (hn : ¬ S g) : Row w' g n V := by
  obtain ⟨cs, h1, h2, h3⟩ := h
  exact ⟨cs, c.blk h1 hn, h2, h3⟩
theorem MemM.chg {S : Nat → Prop} {w w' : World} {p g F t : Nat} {V : Nat → Nat} (h : MemM w p g F V t) (c : Chg S w w') (hn : ¬ S p) (hm : ¬ S g) : MemM w' p g F V t :=
  ⟨c.blk h.blk hn, h.row.chg c hm, h.ne, h.small⟩
theorem MemU.chg {S : Nat → Prop} {w w' : World} {p F t : Nat} (h : MemU w p F t) (c : Chg S w w') (hn : ¬ S p) : MemU w' p F t := ⟨c.blk h.blk hn⟩

/-- what the closure in bytes does -/
def Made (w : World) (p F t : Nat) (_pl : Nat) (w' : World) : Prop :=
  ∃ g, w.heap.size ≤ g ∧ Blk w' p #[.int .i64 F, .int .u32 0, .int .i32 1, .int .u32 0, memS g F, .int .u64 t] MemT ∧ Row w' g (F * 256) (fun _ => 0) ∧ Chg (fun k => k = p) w w'

/-- F frames of noughts -/
def zeros (n : Nat) : Array Value := madeCells #[.int .u8 0] n
theorem zeros_size (n : Nat) : (zeros n).size = n := size_madeCells _ _
theorem zeros_get (n i : Nat) (h : i < n) : (zeros n)[i]? = some (.int .u8 0) := by
  unfold zeros madeCells
  simp [h, Nat.mod_one]
theorem make_bytes (W : World) (n : Nat) (hn : n ≤ 16777216) : (Instr.makeSlice 51 (.int .i64 (n : Int)) (.int .i64 (n : Int))).run Try.prog W = .ok (.slice (some ⟨W.heap.size, 0, none⟩) n n) (W.alloc (.cells (zeros n) ByT)) := by
  obtain ⟨i0, hi, hz0, hz1, hz2⟩ := info_parts Try.infoU8
  have h := run_make (P := Try.prog) W 51 ByT i0 (.int .u8 0) Try.underlying51 hi hz0 .i64 .i64 (n : Int) (n : Int) (by omega) (Int.le_refl _) (by rw [hz2]; omega) (by omega)
  rw [hz1, Nat.mul_one] at h
  exact h
theorem make_frames (W : World) (F : Nat) (hF : F ≤ 256) : (Instr.makeSlice 51 (.int .i64 ((F : Int) * 256)) (.int .i64 ((F : Int) * 256))).run Try.prog W = .ok (.slice (some ⟨W.heap.size, 0, none⟩) (F * 256) (F * 256)) (W.alloc (.cells (zeros (F * 256)) ByT)) := by
  have h := make_bytes W (F * 256) (by omega)
  rw [show ((F * 256 : Nat) : Int) = (F : Int) * 256 from by omega] at h
  exact h
theorem row_zeros (W : World) (n : Nat) : Row (W.alloc (.cells (zeros n) ByT)) W.heap.size n (fun _ => 0) := ⟨_, Blk.new W _ _, zeros_size n, fun i hi => zeros_get n i hi⟩

set_option maxHeartbeats 800000 in
theorem mem_bytes1 (w : World) (p F t pl : Nat) (hF : F ≤ 256) (h : Blk w p #[.int .i64 F, .int .u32 0, .int .i32 1, .int .u32 0, .slice none 0 0, .int .u64 t] MemT) (hp : w.cell? ⟨pl, 0, none⟩ = some (.pointer (some ⟨p, 0, none⟩))) :
    Calls Try.prog 82 #[.pointer (some ⟨pl, 0, none⟩)] w fun e w' => e = .returned (.tuple #[]) ∧ Made w p F t pl w' := by
  have c0 := h.cellv 0 _ rfl
  have c4 := h.cellv 4 _ rfl
  have f4 := h.free 4
  have hw : wrap64 ((F : Int) * 256) = (F : Int) * 256 := by unfold wrap64; omega
  have hmk := fun W => make_frames W F hF
  have hplt : pl < w.heap.size := by
    have := World.block_lt_of_cell? _ _ hp
    simpa using this
  have hp' : (w.alloc (.cells (zeros (F * 256)) ByT)).cell? ⟨pl, 0, none⟩ = some (.pointer (some ⟨p, 0, none⟩)) := by
    rw [(Chg.refl (fun _ => False) w |>.alloc _).cell hplt (fun h => h)]; exact hp
  have h' := h.alloc (.cells (zeros (F * 256)) ByT)
  have c0' := h'.cellv 0 _ rfl
  have c4' := h'.cellv 4 _ rfl
  have f4' := h'.free 4
  have HH := Lib.hid (And.intro h h'); clear h h'
  go_enter Try.func82, Try.ntmps82
  go_wp2_with fail
  go_region
  all_goals
    go_end0
    have hl := HH.out.1.lt
    exact ⟨rfl, w.heap.size, Nat.le_refl _, HH.out.2.set 4 (memS w.heap.size F), (row_zeros w (F * 256)).chg (((Chg.refl (fun k => k = p) _).setCell ⟨p, 4, none⟩ _ (.inl rfl)).drew) (by omega), ((((Chg.refl (fun k => k = p) w).alloc _).setCell ⟨p, 4, none⟩ _ (.inl rfl)).drew)⟩
end Go.Proofs.Ytodjmfmenfncdaa
