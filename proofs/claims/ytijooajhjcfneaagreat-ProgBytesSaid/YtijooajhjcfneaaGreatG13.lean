/-
  Several texts in one: SpShown, SpShown2, SpShown3.
-/
import Derived.Test.YtijooajhjcfneaaGreatG12
namespace Go.Proofs.YtijooajhjcfneaaGreat
open Go.RowKit

def z0 : PS := ⟨frAll 0 16, fun _ => 0⟩
def z1 : PS := z0.take 16
def z2 : PS := (mapS 16 z1 0 1 23).1
def z3 : PS := (mapS 16 z2 0 2 23).1
def zw : ByteArray := ⟨#[97, 98, 99, 100, 101, 102, 103, 104, 105, 106, 107, 108]⟩
def zys : List Nat := [1012, 1013, 1014, 1015, 1016, 1017, 1018, 1019, 1020, 1021, 1022, 1023]
def z4 : PS := ⟨z3.Fr, outV z3.V zys zw 12⟩
def zv : List (Int × Nat) := [(1, 3 * 1024 + 23), (2, 4 * 1024 + 23), (-1, 2 * 1024 + 1), (-1, 1 * 1024 + 1)]
def z5 : PS := cpAll 16 (z4.top 16) (z4.take 16) zv
theorem z_top0 : z0.top 16 = 0 := by decide +kernel
theorem z_left0 : z0.left 16 = 16 := by decide +kernel
theorem z_map1 : (mapS 16 z1 0 1 23).2 = 0 := by decide +kernel
theorem z_map2 : (mapS 16 z2 0 2 23).2 = 0 := by decide +kernel
theorem z_out : adrs z3.V 16 0 500 2 12 = some zys := by decide +kernel
theorem z_out2 : adrs z4.V 16 0 760 2 12 = none := by decide +kernel
theorem z_vis4 : visT z4.V 2 0 0 32 = zv := by decide +kernel
theorem z_left4 : z4.left 16 = 11 := by decide +kernel
theorem z_top4 : z4.top 16 = 5 := by decide +kernel
theorem z_vis4' : visT (z4.take 16).V 2 0 0 32 = zv := by decide +kernel
theorem z_left5 : z5.left 16 = 6 := by decide +kernel
theorem z_in5 : adrs z5.V 16 5 510 1 3 = some [2302, 2303, 2304] := by decide +kernel
theorem z_ins : inS z5.V [2302, 2303, 2304] = [107, 108, 0] := by decide +kernel
theorem z_vis5 : visT z5.V 2 0 0 32 = zv := by decide +kernel
end Go.Proofs.YtijooajhjcfneaaGreat

namespace Go.Proofs.YtijooajhjcfneaaGreat
open Go.RowKit

theorem StepS.toT {B : Nat} {w : World} {p F t : Nat} {V : Nat → Nat} (ht : t < 18446744073709551616) (h : MS B w p F V t) : MT B w p F V := ⟨t, ht, h⟩
abbrev SP (B : Nat) (W : World) (q p F : Nat) (s : PS) : Prop := Pl (fun k => k < B) W q p F 0 s.Fr s.V
abbrev SStep (B : Nat) (W : World) (q p F : Nat) (s : PS) (v : Value) (e : Ending) (w' : World) : Prop := StepF (fun k => k < B) W q p F 0 s.Fr s.V v e w'

end Go.Proofs.YtijooajhjcfneaaGreat

namespace Go.Proofs.YtijooajhjcfneaaGreat
open Go.RowKit

theorem nat0 : ((0 : Nat) : Int) = 0 := rfl
theorem nat1 : ((1 : Nat) : Int) = 1 := rfl
theorem nat2 : ((2 : Nat) : Int) = 2 := rfl
theorem nat3 : ((3 : Nat) : Int) = 3 := rfl
theorem nat5 : ((5 : Nat) : Int) = 5 := rfl
theorem nat23 : ((23 : Nat) : Int) = 23 := rfl
theorem nat11 : ((11 : Nat) : Int) = 11 := rfl
theorem nat500 : ((500 : Nat) : Int) = 500 := rfl
theorem nat510 : ((510 : Nat) : Int) = 510 := rfl
theorem nat760 : ((760 : Nat) : Int) = 760 := rfl
theorem z_n0 : z0.take 16 = z1 := rfl
theorem z_m1 : (mapS 16 z1 0 1 23).1 = z2 := rfl
theorem z_m2 : (mapS 16 z2 0 2 23).1 = z3 := rfl
theorem z_c5 : cpAll 16 (z4.top 16) (z4.take 16) (visT (z4.take 16).V 2 0 0 32) = z5 := by rw [z_vis4']; rfl
theorem z_F : (16 : Nat) ≤ 256 := by decide
theorem z_len : zv.length = 4 := rfl
theorem z_o4 : (⟨z3.Fr, outV z3.V zys zw 12⟩ : PS) = z4 := rfl
theorem zw_size : zw.size = 12 := rfl
theorem SStep.of {B : Nat} {W : World} {q p F : Nat} {s s' : PS} {v : Value} (h : s = s') {P : Program} {f : FuncId} {args : Array Value} (c : Calls P f args W (StepF (fun k => k < B) W q p F 0 s.Fr s.V v)) : Calls P f args W (SStep B W q p F s' v) := by subst h; exact c
theorem SStep.of2 {B : Nat} {W : World} {q p F : Nat} {s' : PS} {Fr : Nat → Bool} {V : Nat → Nat} {v : Value} (h : (⟨Fr, V⟩ : PS) = s') {P : Program} {f : FuncId} {args : Array Value} (c : Calls P f args W (StepF (fun k => k < B) W q p F 0 Fr V v)) : Calls P f args W (SStep B W q p F s' v) := by subst h; exact c
structure Chain (R1 R2 R3 R5 : Roles) : Prop where
  g1 : SG 16 z1 R1
  r1 : R1 0 = some (0, 3, 0)
  g2 : SG 16 z2 R2
  r2 : R2 0 = some (0, 3, 0)
  g3 : SG 16 z3 R3
  r3 : R3 0 = some (0, 3, 0)
  g4 : SG 16 z4 R3
  g5 : SG 16 z5 R5
  r5 : R5 0 = some (0, 3, 0)
  t5 : R5 5 = some (5, 3, 0)
theorem chain : ∃ R1 R2 R3 R5, Chain R1 R2 R3 R5 := by
  have g0 : SG 16 z0 (fun _ => none) := good_start 16 _
  obtain ⟨g1, r1, _⟩ := good_new g0 (by rw [z_left0]; decide)
  rw [z_n0] at g1
  rw [z_top0] at g1 r1
  generalize setR (fun _ => none) 0 (0, 3, 0) = R1 at *
  obtain ⟨R2, g2, h2⟩ := good_map z_F g1 r1 (show 1 < 32768 by decide) (show 23 < 32 by decide) (show 23 % 2 = 1 by decide) z_m1
  obtain ⟨R3, g3, h3⟩ := good_map z_F g2 (h2 _ _ r1) (show 2 < 32768 by decide) (show 23 < 32 by decide) (show 23 % 2 = 1 by decide) z_m2
  have g4 := good_out g3 (h3 _ _ (h2 _ _ r1)) zw z_out
  rw [z_o4] at g4
  obtain ⟨R5, g5, r5, t5, _⟩ := good_copy z_F g4 (h3 _ _ (h2 _ _ r1)) (by rw [z_vis4, z_left4, z_len]; decide) z_c5
  rw [z_top4] at t5
  exact ⟨R1, R2, R3, R5, g1, r1, g2, h2 _ _ r1, g3, h3 _ _ (h2 _ _ r1), g4, g5, r5, t5⟩
theorem z_off (R5 : Roles) (g : SG 16 z5 R5) (r : R5 0 = some (0, 3, 0)) : (z5.off R5 0).left 16 = 11 := by
  rw [off_cntN g.wf, ← vis_count g.wf r, z_vis5, z_left5, z_len]
theorem z_ins' : inR z5.V (adrs z5.V 16 5 510 1 3) = .tuple #[.string ⟨#[107, 108, 0]⟩, .int .i64 0] := by
  rw [z_in5]
  show Value.tuple #[.string ⟨(inS z5.V [2302, 2303, 2304]).toArray⟩, .int .i64 0] = _
  rw [z_ins]
end Go.Proofs.YtijooajhjcfneaaGreat
