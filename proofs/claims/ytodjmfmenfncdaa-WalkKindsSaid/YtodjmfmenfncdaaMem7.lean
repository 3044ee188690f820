/-
  phys.Clear, Copy, Clone by their contracts.
-/
import Derived.Test.YtodjmfmenfncdaaMem6
namespace Go.Proofs.Ytodjmfmenfncdaa
open Go.RowKit

theorem zeroU8 : ∀ w : World, (zeroValue ByT).run Try.prog w = .ok (.int .u8 0) w := by intro w; go_simp

theorem clear_frame (w : World) (p g F t : Nat) (V : Nat → Nat) (h : MemM w p g F V t) (at_ n cap : Nat) (hn : 0 < n) (hfit : at_ + n ≤ F * 256) :
    ∃ w' y, (Builtin.clear_ #[51] 0 #[.slice (some ⟨g, at_, none⟩) n cap]).run Try.prog w = .ok y w' ∧ MemM w' p g F (putV V at_ n (fun _ => 0)) t ∧ Chg (fun i => i = p ∨ i = g) w w' := by
  obtain ⟨cs, hb, hs, hv⟩ := h.row
  have hr := row_clear g (F * 256) n at_ w V h.row hfit
  refine ⟨_, _, Lib.run_clear_slice w 51 ByT 0 (.int .u8 0) Try.underlying51 zeroU8 rfl rfl g at_ n cap hn (fun j hj => ?_) (fun j hj => hb.free _), ⟨?_, hr.1, h.ne, putV_small h.small (fun _ => by omega)⟩, hr.2.mono fun _ h => .inr h⟩
  · rw [hb.cell, hv _ (by omega)]; rfl
  · exact hr.2.blk h.blk h.ne

set_option maxHeartbeats 800000 in
theorem mem_clear (w : World) (p F t : Nat) (hF : F ≤ 256) (o : Option Nat) (V : Nat → Nat) (h : MemA w p o F V t) (f : Nat) (hf : f < F) :
    Calls Try.prog 74 #[.pointer (some ⟨p, 0, none⟩), .int .i64 f] w (MemPost w p F t o (putV V (f * 256) 256 (fun _ => 0)) (.int .i64 0)) := by
  have HS := Lib.hid (mem_frame w p F t hF o V h f hf)
  clear h
  have HF := Lib.hid hf; clear hf
  go_enter Try.func74, Try.ntmps74
  go_wp2_with fail
  refine HS.out.mono ?_
  rintro e w' ⟨g, off, cap, rfl, h1, h2, h3, h4⟩
  obtain rfl := h1 (by omega)
  obtain ⟨w2, y, hcl, h5, h6⟩ := clear_frame w' p g F t V h2 (f * 256) 256 cap (by omega) (by have := HF.out; omega)
  have HM := Lib.hid (And.intro h3 (And.intro h4 (And.intro h5 h6))); clear h1 h2 h3 h4 h5 h6
  go_wp2_with fail
  go_ret
  exact ⟨g, rfl, HM.out.2.2.1, own_chg HM.out.1 HM.out.2.2.2 HM.out.2.1, HM.out.2.1⟩

theorem mem_clear_no (w : World) (p F t : Nat) (o : Option Nat) (V : Nat → Nat) (h : MemA w p o F V t) (f : Int) (hf : f < 0 ∨ (F : Int) ≤ f) :
    Calls Try.prog 74 #[.pointer (some ⟨p, 0, none⟩), .int .i64 f] w fun e w' => e = .returned (.int .i64 3) ∧ w = w' := by
  have HS := Lib.hid (mem_frame_no w p F t o V h f hf)
  clear h hf
  go_enter Try.func74, Try.ntmps74
  go_wp2_with fail
  refine HS.out.mono ?_
  rintro e w' ⟨rfl, rfl⟩
  go_wp2_with fail
  go_ret
  exact ⟨rfl, rfl⟩

theorem copy_frame (w : World) (p g F t : Nat) (V : Nat → Nat) (h : MemM w p g F V t) (a b n c1 c2 : Nat) (_hn : 0 < n) (ha : a + n ≤ F * 256) (hb : b + n ≤ F * 256) :
    ∃ w', (Builtin.copy_ #[51, 51] 3 #[.slice (some ⟨g, a, none⟩) n c1, .slice (some ⟨g, b, none⟩) n c2]).run Try.prog w = .ok (goInt n) w' ∧ MemM w' p g F (putV V a n (fun i => V (b + i))) t ∧ Chg (fun i => i = p ∨ i = g) w w' := by
  obtain ⟨cs, hbk, hs, hv⟩ := h.row
  have hl : ((List.range n).map fun i => Value.int .u8 (V (b + i) : Nat)).length = n := by simp
  have hr := run_copy_row (P := Try.prog) w 51 51 3 ByT g a n c1 ⟨g, b, none⟩ n c2 cs ByT ((List.range n).map fun i => Value.int .u8 (V (b + i) : Nat)) Try.underlying51 infoU8s hbk (by rw [hl]; exact (Nat.min_self n).symm) (fun j v hj => ?_) (by rw [hl]; omega) (fun v hv => by simp only [List.mem_map] at hv; obtain ⟨_, _, rfl⟩ := hv; rfl)
  · rw [hl] at hr
    refine ⟨_, hr, ⟨(chg_setRow (S := fun k => k = g) (Chg.refl _ w) (.inl rfl)).blk h.blk h.ne, row_put hbk hs hv a n (fun i => V (b + i)) _ hl (fun j hj => by simp [hj]) ha, h.ne, putV_small h.small (fun _ => h.small _)⟩, chg_setRow (Chg.refl _ _) (.inl (.inr rfl))⟩
  · have hj2 : j < n := by
      have := List.getElem?_eq_some_iff.mp hj
      obtain ⟨h1, _⟩ := this
      simpa using h1
    simp [hj2] at hj
    subst hj
    have hadd : (⟨g, b, none⟩ : Addr).add j = ⟨g, b + j, none⟩ := by unfold Addr.add; split <;> simp_all
    rw [hadd, hbk.cell, hv _ (by omega)]

set_option maxHeartbeats 800000 in
theorem mem_copy (w : World) (p F t : Nat) (hF : F ≤ 256) (o : Option Nat) (V : Nat → Nat) (h : MemA w p o F V t) (a b : Nat) (ha : a < F) (hb : b < F) :
    Calls Try.prog 56 #[.pointer (some ⟨p, 0, none⟩), .int .i64 a, .int .i64 b] w (MemPost w p F t o (putV V (a * 256) 256 (fun i => V (b * 256 + i))) (.int .i64 0)) := by
  have HS := Lib.hid (mem_frame w p F t hF o V h a ha)
  clear h
  have HF := Lib.hid (And.intro ha hb)
  have HS2 := fun W g (H : MemM W p g F V t) => Lib.hid (mem_frame W p F t hF (some g) V (.made H) b hb)
  have HS3 := Lib.hid HS2
  clear HS2 ha hb
  go_enter Try.func56, Try.ntmps56
  go_wp2_with fail
  refine HS.out.mono ?_
  rintro e w1 ⟨g, off, cap, rfl, h1, h2, h3, h4⟩
  obtain rfl := h1 (by omega)
  have HA := Lib.hid h2
  have H3 := Lib.hid h3; have H4 := Lib.hid h4; clear h1 h2 h3 h4
  go_wp2_with fail
  refine (HS3.out w1 g HA.out).out.mono ?_
  rintro e w2 ⟨g2, off2, cap2, rfl, k1, k2, k3, k4⟩
  obtain rfl := k1 (by omega)
  obtain rfl : g = g2 := by rcases k4 with k4 | k4; simpa using k4; simp at k4
  obtain ⟨w3, hcp, h5, h6⟩ := copy_frame w2 p g F t V k2 (a * 256) (b * 256) 256 cap cap2 (by omega) (by have := HF.out.1; omega) (by have := HF.out.2; omega)
  have HM := Lib.hid (And.intro (H3.out.trans k3) (And.intro h5 h6)); clear k1 k2 k3 k4 h5 h6
  go_wp2_with fail
  go_ret
  exact ⟨g, rfl, HM.out.2.1, own_chg HM.out.1 HM.out.2.2 H4.out, H4.out⟩

/-- what a call on a memory leaves, however it ends -/
def MemK (w : World) (p F t : Nat) (o : Option Nat) (V : Nat → Nat) (v : Value) (e : Ending) (w' : World) : Prop :=
  e = .returned v ∧ ∃ o', MemA w' p o' F V t ∧ Chg (MemOwn p o) w w' ∧ ∀ k, MemOwn p o' k → MemOwn p o k ∨ w.heap.size ≤ k

theorem MemPost.keep {w w' : World} {p F t : Nat} {o : Option Nat} {V : Nat → Nat} {v : Value} {e : Ending} (h : MemPost w p F t o V v e w') : MemK w p F t o V v e w' := by
  obtain ⟨g, he, hm, hc, ho⟩ := h
  refine ⟨he, some g, .made hm, hc, ?_⟩
  rintro k (rfl | hk)
  · exact .inl (.inl rfl)
  · cases hk
    rcases ho with ho | ho
    · exact .inl (.inr ho)
    · exact .inr ho.2

theorem MemA.keep {w : World} {p F t : Nat} {o : Option Nat} {V : Nat → Nat} {v : Value} (h : MemA w p o F V t) : MemK w p F t o V v (.returned v) w :=
  ⟨rfl, o, h, Chg.refl _ _, fun _ h => .inl h⟩

theorem Span.keep {w w' : World} {p g F t : Nat} {o : Option Nat} {V : Nat → Nat} {v : Value} (h : MemM w' p g F V t) (hc : Chg (fun k => k = p) w w') (ho : o = some g ∨ o = none ∧ w.heap.size ≤ g) : MemK w p F t o V v (.returned v) w' :=
  MemPost.keep ⟨g, rfl, h, chg_own hc, ho⟩

set_option maxHeartbeats 800000 in
theorem mem_copy_no (w : World) (p F t : Nat) (hF : F ≤ 256) (o : Option Nat) (V : Nat → Nat) (h : MemA w p o F V t) (a b : Int) (hab : ¬ (0 ≤ a ∧ a < F ∧ 0 ≤ b ∧ b < F)) :
    Calls Try.prog 56 #[.pointer (some ⟨p, 0, none⟩), .int .i64 a, .int .i64 b] w (MemK w p F t o V (.int .i64 3)) := by
  by_cases ha : 0 ≤ a ∧ a < F
  · obtain ⟨a, rfl⟩ := Int.eq_ofNat_of_zero_le ha.1
    have HS := Lib.hid (mem_frame w p F t hF o V h a (by omega))
    have HS2 := fun W g (H : MemM W p g F V t) => Lib.hid (mem_frame_no W p F t (some g) V (.made H) b (by omega))
    have HS3 := Lib.hid HS2
    clear HS2 ha hab h
    go_enter Try.func56, Try.ntmps56
    go_wp2_with fail
    refine HS.out.mono ?_
    rintro e w1 ⟨g, off, cap, rfl, h1, h2, h3, h4⟩
    have HA := Lib.hid h2
    have H3 := Lib.hid (And.intro h3 h4); clear h1 h2 h3 h4
    go_wp2_with fail
    refine (HS3.out w1 g HA.out).out.mono ?_
    rintro e w2 ⟨rfl, rfl⟩
    go_wp2_with fail
    go_ret
    exact Span.keep HA.out H3.out.1 H3.out.2
  · have HS := Lib.hid (mem_frame_no w p F t o V h a (by omega))
    have HA := Lib.hid h
    clear hab h
    by_cases hb : 0 ≤ b ∧ b < F
    · obtain ⟨b, rfl⟩ := Int.eq_ofNat_of_zero_le hb.1
      have HS3 := Lib.hid (mem_frame w p F t hF o V HA.out b (by omega))
      clear ha hb
      go_enter Try.func56, Try.ntmps56
      go_wp2_with fail
      refine HS.out.mono ?_
      rintro e w1 ⟨rfl, rfl⟩
      go_wp2_with fail
      refine HS3.out.mono ?_
      rintro e w1 ⟨g, off, cap, rfl, h1, h2, h3, h4⟩
      have H3 := Lib.hid (And.intro h2 (And.intro h3 h4)); clear h1 h2 h3 h4
      go_wp2_with fail
      go_ret
      exact Span.keep H3.out.1 H3.out.2.1 H3.out.2.2
    · have HS3 := Lib.hid (mem_frame_no w p F t o V HA.out b (by omega))
      clear ha hb
      go_enter Try.func56, Try.ntmps56
      go_wp2_with fail
      refine HS.out.mono ?_
      rintro e w1 ⟨rfl, rfl⟩
      go_wp2_with fail
      refine HS3.out.mono ?_
      rintro e w1 ⟨rfl, rfl⟩
      go_wp2_with fail
      go_ret
      exact HA.out.keep
end Go.Proofs.Ytodjmfmenfncdaa
