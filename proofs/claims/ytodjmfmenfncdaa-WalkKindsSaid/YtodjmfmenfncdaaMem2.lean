/-
  phys.New, Frames, bytes, span by their contracts.
-/
import Derived.Test.YtodjmfmenfncdaaMem1
namespace Go.Proofs.Ytodjmfmenfncdaa
open Go.RowKit

/-- which block of bytes: not made yet, or made -/
inductive MemA : World → Nat → Option Nat → Nat → (Nat → Nat) → Nat → Prop
  | un {w p F t} (h : MemU w p F t) : MemA w p none F (fun _ => 0) t
  | made {w p g F V t} (h : MemM w p g F V t) : MemA w p (some g) F V t

/-- the blocks of a memory -/
def MemOwn (p : Nat) (o : Option Nat) (k : Nat) : Prop := k = p ∨ o = some k

theorem MemA.chg {S : Nat → Prop} {w w' : World} {p F t : Nat} {o : Option Nat} {V : Nat → Nat} (h : MemA w p o F V t) (c : Chg S w w') (hn : ∀ k, MemOwn p o k → ¬ S k) : MemA w' p o F V t := by
  cases h with
  | un h => exact .un (h.chg c (hn _ (.inl rfl)))
  | made h => exact .made (h.chg c (hn _ (.inl rfl)) (hn _ (.inr rfl)))
theorem MemA.small {w : World} {p F t : Nat} {o : Option Nat} {V : Nat → Nat} (h : MemA w p o F V t) : ∀ i, V i < 256 := by
  cases h with
  | un h => intro i; exact Nat.zero_lt_succ _
  | made h => exact h.small
theorem MemA.lt {w : World} {p F t : Nat} {o : Option Nat} {V : Nat → Nat} (h : MemA w p o F V t) : ∀ k, MemOwn p o k → k < w.heap.size := by
  cases h with
  | un h => rintro k (rfl | h'); exact h.blk.lt; exact absurd h' (by simp)
  | made h => rintro k (rfl | h'); exact h.blk.lt; cases h'; exact h.row.lt

theorem phys_new (w : World) (F : Int) (h0 : 1 ≤ F) (h1 : F ≤ 256) :
    Calls Try.prog 31 #[.int .i64 F] w fun e w' => e = .returned (.tuple #[.pointer (some ⟨w.heap.size, 0, none⟩), .int .i64 0]) ∧ MemU w' w.heap.size F.toNat 0 ∧ Chg (fun _ => False) w w' ∧ w'.heap.size = w.heap.size + 1 := by
  obtain ⟨n, rfl⟩ := Int.eq_ofNat_of_zero_le (show 0 ≤ F by omega)
  go_enter Try.func31, Try.ntmps31
  go_wp2_with fail
  go_ret2
  exact ⟨rfl, ⟨Blk.new w _ _⟩, (Chg.refl _ _).alloc _, by simp⟩

theorem phys_new_no (w : World) (F : Int) (h : F < 1 ∨ 256 < F) :
    Calls Try.prog 31 #[.int .i64 F] w fun e w' => e = .returned (.tuple #[.pointer none, .int .i64 1]) ∧ w = w' := by
  by_cases h1 : F < 1
  · go_enter Try.func31, Try.ntmps31
    go_wp2_with fail
    go_ret2
    exact ⟨rfl, rfl⟩
  · have h2 : 256 < F := by omega
    go_enter Try.func31, Try.ntmps31
    go_wp2_with fail
    go_ret2
    exact ⟨rfl, rfl⟩

theorem MemA.cell0 {w : World} {p F t : Nat} {o : Option Nat} {V : Nat → Nat} (h : MemA w p o F V t) : w.cell? ⟨p, 0, none⟩ = some (.int .i64 F) := by
  cases h with
  | un h => exact h.blk.cellv 0 _ rfl
  | made h => exact h.blk.cellv 0 _ rfl

theorem phys_frames (w : World) (p F t : Nat) (o : Option Nat) (V : Nat → Nat) (h : MemA w p o F V t) :
    Calls Try.prog 35 #[.pointer (some ⟨p, 0, none⟩)] w fun e w' => e = .returned (.int .i64 F) ∧ w = w' := by
  have c0 := h.cell0
  clear h
  go_enter Try.func35, Try.ntmps35
  go_wp2_with fail
  go_ret
  exact ⟨rfl, rfl⟩

/-- what 'bytes' comes to -/
def Bytes (w : World) (p F t : Nat) (o : Option Nat) (V : Nat → Nat) (e : Ending) (w' : World) : Prop :=
  ∃ g, e = .returned (.slice (some ⟨g, 0, none⟩) (F * 256) (F * 256)) ∧ MemM w' p g F V t ∧ Chg (fun k => k = p) w w' ∧ (o = some g ∨ o = none ∧ w.heap.size ≤ g)

theorem mem_bytes_made (w : World) (p g F t : Nat) (V : Nat → Nat) (h : MemM w p g F V t) :
    Calls Try.prog 73 #[.pointer (some ⟨p, 0, none⟩)] w (Bytes w p F t (some g) V) := by
  have hmf : ∀ (fn : Fn) (first cap : Array Value) (w : World), (Instr.makeFunc fn first cap).run Try.prog w = .ok (.func fn first cap) w := fun _ _ _ _ => rfl
  obtain ⟨W1, hW1⟩ : ∃ W, W = w.alloc (.cells #[.pointer (some ⟨p, 0, none⟩)] 27) := ⟨_, rfl⟩
  have B1 : Blk W1 p _ MemT := hW1 ▸ h.blk.alloc _
  have P1 : Blk W1 w.heap.size #[.pointer (some ⟨p, 0, none⟩)] 27 := hW1 ▸ Blk.new w _ _
  have C1 : Chg (fun k => k = p) w W1 := hW1 ▸ (Chg.refl _ _).alloc _
  have D := fun fv => Lib.hid (sy_do_done ⟨p, 1, none⟩ fv W1 (B1.cellv 1 _ rfl))
  have d0 := P1.cellv 0 _ rfl
  have d4 := B1.cellv 4 _ rfl
  have HM := Lib.hid (h.chg (S := fun _ => False) (hW1 ▸ (Chg.refl _ _).alloc _ : Chg (fun _ => False) w W1) (fun h => h) (fun h => h))
  have HC := Lib.hid C1
  have HD := Lib.hid D
  clear B1 P1 C1 h D
  have HW := Lib.hid hW1
  rw [hW1] at HD d0 d4
  clear hW1
  unfold memS at d4
  go_enter Try.func73, Try.ntmps73
  go_wp2_with (go_at_call 81; refine (HD.out _).out.mono ?_; rintro e w' ⟨rfl, rfl⟩)
  go_ret
  exact ⟨g, rfl, HW.out ▸ HM.out, HW.out ▸ HC.out, .inl rfl⟩

theorem made_out {Wa w' : World} {p F t pl : Nat} (hp : p < Wa.heap.size) (h : OnceOut p 1 (Made Wa p F t pl) w') :
    ∃ g, Wa.heap.size ≤ g ∧ MemM w' p g F (fun _ => 0) t ∧ Chg (fun k => k = p) Wa w' := by
  obtain ⟨W2, ⟨g, hg, hb, hr, hc⟩, rfl⟩ := h
  have ne : ¬ g = p := by omega
  refine ⟨g, hg, ⟨?_, (hr.chg (S := fun k => k = p) (((Chg.refl (fun k => k = p) W2).drew.setCell ⟨p, 1, none⟩ _ (.inl rfl)).setCell ⟨p, 1 + 1, none⟩ _ (.inl rfl)) ne), fun h => ne h.symm, fun _ => by omega⟩, (hc.drew.setCell _ _ (.inl rfl)).setCell _ _ (.inl rfl)⟩
  exact (hb.drew.set 1 (.int .u32 1)).set 2 (.int .i32 0)

theorem made_once {Wa : World} {p F t pl : Nat} (W2 : World) (h : Made Wa p F t pl W2) : OnceIn p 1 W2 := by
  obtain ⟨g, hg, hb, hr, hc⟩ := h
  exact ⟨hb.cellv 1 _ rfl, hb.cellv 2 _ rfl, hb.free 1, hb.free 2⟩

set_option maxHeartbeats 800000 in
theorem mem_bytes_new (w : World) (p F t : Nat) (hF : F ≤ 256) (h : MemU w p F t) :
    Calls Try.prog 73 #[.pointer (some ⟨p, 0, none⟩)] w (Bytes w p F t none (fun _ => 0)) := by
  have hb := h.blk.lt
  have hmf : ∀ (fn : Fn) (first cap : Array Value) (w : World), (Instr.makeFunc fn first cap).run Try.prog w = .ok (.func fn first cap) w := fun _ _ _ _ => rfl
  obtain ⟨W1, hW1⟩ : ∃ W, W = w.alloc (.cells #[.pointer (some ⟨p, 0, none⟩)] 27) := ⟨_, rfl⟩
  have B1 : Blk W1 p _ MemT := hW1 ▸ h.blk.alloc _
  have P1 : Blk W1 w.heap.size #[.pointer (some ⟨p, 0, none⟩)] 27 := hW1 ▸ Blk.new w _ _
  have C1 : Chg (fun k => k = p) w W1 := hW1 ▸ (Chg.refl _ _).alloc _
  have z1 : W1.heap.size = w.heap.size + 1 := by rw [hW1]; simp
  obtain ⟨Wa, hWa⟩ : ∃ W, W = W1.setCell ⟨p, 1 + 1, none⟩ (.int .i32 1) := ⟨_, rfl⟩
  have Ba : Blk Wa p _ MemT := hWa ▸ B1.set 2 (.int .i32 1)
  have Pa : Blk Wa w.heap.size #[.pointer (some ⟨p, 0, none⟩)] 27 := hWa ▸ P1.setOther _ _ (by simp; omega)
  have Ca : Chg (fun k => k = p) w Wa := hWa ▸ C1.setCell _ _ (.inl rfl)
  have za : Wa.heap.size = w.heap.size + 1 := by rw [hWa]; simp [z1]
  have hF1 := mem_bytes1 Wa p F t w.heap.size hF Ba (Pa.cellv 0 _ rfl)
  have hcf : ∀ w0 : World, (callFunc 82 #[.pointer (some ⟨w.heap.size, 0, none⟩)]).run Try.prog w0 = .ok (.enter 82 #[.pointer (some ⟨w.heap.size, 0, none⟩)]) w0 := by
    intro w0
    go_simp
  have hD := sy_do_firstR p 1 82 ⟨w.heap.size, 0, none⟩ W1 (Made Wa p F t w.heap.size) hcf (hWa ▸ hF1) (B1.cellv 1 _ rfl) (B1.cellv 2 _ rfl) (B1.free 2) made_once
  have pay : ∀ w', OnceOut p 1 (Made Wa p F t w.heap.size) w' → ∃ g, w'.cell? ⟨w.heap.size, 0, none⟩ = some (.pointer (some ⟨p, 0, none⟩)) ∧ w'.cell? ⟨p, 4, none⟩ = some (.slice (some ⟨g, 0, none⟩) (F * 256) (F * 256)) ∧ Hid (w.heap.size ≤ g ∧ MemM w' p g F (fun _ => 0) t ∧ Chg (fun k => k = p) w w') := by
    intro w' ho
    obtain ⟨g, hg, hm, hc⟩ := made_out (by omega) ho
    exact ⟨g, by rw [hc.cell (by simp [za]) (by simp; omega)]; exact Pa.cellv 0 _ rfl, hm.blk.cellv 4 _ rfl, by omega, hm, Ca.trans hc⟩
  have PAY := Lib.hid pay
  clear pay hF1 hcf B1 P1 C1 z1 Ba Pa Ca za h hWa
  rw [hW1] at hD
  clear hW1
  have HD := Lib.hid hD; clear hD
  go_enter Try.func73, Try.ntmps73
  go_wp2_with (go_at_call 81; refine HD.out.mono ?_; rintro e w' ⟨rfl, hO⟩; obtain ⟨g, x0, x4, hG⟩ := PAY.out _ hO; clear hO)
  go_ret
  exact ⟨g, rfl, hG.out.2.1, hG.out.2.2, .inr ⟨rfl, hG.out.1⟩⟩

theorem mem_bytes (w : World) (p F t : Nat) (hF : F ≤ 256) (o : Option Nat) (V : Nat → Nat) (h : MemA w p o F V t) :
    Calls Try.prog 73 #[.pointer (some ⟨p, 0, none⟩)] w (Bytes w p F t o V) := by
  cases h with
  | un h => exact mem_bytes_new w p F t hF h
  | made h => exact mem_bytes_made w p _ F t V h

/-- what 'span' comes to where all is there -/
def Span (w : World) (p F t : Nat) (o : Option Nat) (V : Nat → Nat) (at_ n : Nat) (e : Ending) (w' : World) : Prop :=
  ∃ g off cap, e = .returned (.tuple #[.slice (some ⟨g, off, none⟩) n cap, .bool true]) ∧ (0 < n → off = at_) ∧ MemM w' p g F V t ∧ Chg (fun k => k = p) w w' ∧ (o = some g ∨ o = none ∧ w.heap.size ≤ g)
/-- and where not -/
def SpanNo (w : World) (p F t : Nat) (o : Option Nat) (V : Nat → Nat) (e : Ending) (w' : World) : Prop :=
  ∃ g, e = .returned (.tuple #[.slice none 0 0, .bool false]) ∧ MemM w' p g F V t ∧ Chg (fun k => k = p) w w' ∧ (o = some g ∨ o = none ∧ w.heap.size ≤ g)

set_option maxHeartbeats 800000 in
theorem mem_span (w : World) (p F t : Nat) (hF : F ≤ 256) (o : Option Nat) (V : Nat → Nat) (h : MemA w p o F V t) (at_ n : Nat) (hb : at_ + n ≤ F * 256) :
    Calls Try.prog 43 #[.pointer (some ⟨p, 0, none⟩), .int .u64 at_, .int .i64 n] w (Span w p F t o V at_ n) := by
  have HB := Lib.hid (mem_bytes w p F t hF o V h)
  clear h
  have t1 : decide (((F : Int) * 256) < (at_ : Int)) = false := decide_eq_false (by omega)
  have t2 : decide ((F : Int) * 256 - (at_ : Int) < (n : Int)) = false := decide_eq_false (by omega)
  go_enter Try.func43, Try.ntmps43
  go_wp2_with fail
  refine HB.out.mono ?_
  rintro e w' ⟨g, rfl, hm, hc, ho⟩
  have HM := Lib.hid (And.intro hm (And.intro hc ho)); clear hm hc ho
  go_wp2_with fail
  · go_ret2
    exact ⟨g, _, _, rfl, fun h => by omega, HM.out⟩
  · go_ret2
    exact ⟨g, _, _, rfl, fun h => rfl, HM.out⟩

theorem mem_span_no (w : World) (p F t : Nat) (hF : F ≤ 256) (o : Option Nat) (V : Nat → Nat) (h : MemA w p o F V t) (at_ : Nat) (n : Int) (hw : at_ < 18446744073709551616) (hb : F * 256 < at_ ∨ at_ ≤ F * 256 ∧ ((n < 0 ∧ -9223372036854775808 ≤ n) ∨ (F * 256 < at_ + n.toNat ∧ n ≤ 9223372036854775807))) :
    Calls Try.prog 43 #[.pointer (some ⟨p, 0, none⟩), .int .u64 at_, .int .i64 n] w (SpanNo w p F t o V) := by
  have HB := Lib.hid (mem_bytes w p F t hF o V h)
  clear h
  rcases hb with hb | ⟨hb0, hb⟩
  · have t1 : decide (((F : Int) * 256) < (at_ : Int)) = true := decide_eq_true (by omega)
    go_enter Try.func43, Try.ntmps43
    go_wp2_with fail
    refine HB.out.mono ?_
    rintro e w' ⟨g, rfl, hm⟩
    have HM := Lib.hid hm; clear hm
    go_wp2_with fail
    go_ret2
    exact ⟨g, rfl, HM.out⟩
  · have t1 : decide (((F : Int) * 256) < (at_ : Int)) = false := decide_eq_false (by omega)
    have t2 : decide ((F : Int) * 256 - (at_ : Int) < IntKind.u64.wrap n) = true := decide_eq_true (by simp [IntKind.wrap, IntKind.bits, IntKind.signed]; omega)
    obtain ⟨x, hx⟩ : ∃ x, IntKind.u64.wrap n = x := ⟨_, rfl⟩
    rw [hx] at t2
    go_enter Try.func43, Try.ntmps43
    go_wp2_with fail
    refine HB.out.mono ?_
    rintro e w' ⟨g, rfl, hm⟩
    have HM := Lib.hid hm; clear hm
    go_wp2_with fail
    go_ret2
    exact ⟨g, rfl, HM.out⟩
end Go.Proofs.Ytodjmfmenfncdaa
