/-
  Package lock: 'handed' of a lock whose map was not asked for yet.
-/
import Derived.Test.YthlhdgbpfdaodaaLock2
namespace Go.Proofs.Ythlhdgbpfdaodaa
open Go.RowKit Go.Maps

theorem atKey_nil (t : Nat) : (DataW.map (H := Unit) []).atKey (.int .u64 t) (.lit (.bool false)) = .lit (.bool false) := rfl

theorem lk_handed_new (w : World) (b wide next : Nat) (h : LkNew w b wide next) :
    Calls Try.prog 21 #[.pointer (some ⟨b, 0, none⟩)] w (HandedPost w b wide next 0 (fun _ => false) (fun k => k = b)) := by
  have hb := h.lt
  have hmf : ∀ (fn : Fn) (first cap : Array Value) (w : World), (Instr.makeFunc fn first cap).run Try.prog w = .ok (.func fn first cap) w := fun _ _ _ _ => rfl
  obtain ⟨W1, hW1⟩ : ∃ W, W = w.alloc (.cells #[.pointer (some ⟨b, 0, none⟩)] 24) := ⟨_, rfl⟩
  have B1 : Blk W1 b _ LkT := hW1 ▸ h.alloc _
  have P1 : Blk W1 w.heap.size #[.pointer (some ⟨b, 0, none⟩)] 24 := hW1 ▸ Blk.new w _ _
  have C1 : Chg (fun k => k = b) w W1 := hW1 ▸ (Chg.refl _ _).alloc _
  have z1 : W1.heap.size = w.heap.size + 1 := by rw [hW1]; simp
  obtain ⟨Wa, hWa⟩ : ∃ W, W = W1.setCell ⟨b, 3 + 1, none⟩ (.int .i32 1) := ⟨_, rfl⟩
  have Ba : Blk Wa b _ LkT := hWa ▸ B1.set 4 (.int .i32 1)
  have Pa : Blk Wa w.heap.size #[.pointer (some ⟨b, 0, none⟩)] 24 := hWa ▸ P1.setOther _ _ (by simp; omega)
  have Ca : Chg (fun k => k = b) w Wa := hWa ▸ C1.setCell _ _ (.inl rfl)
  have za : Wa.heap.size = w.heap.size + 1 := by rw [hWa]; simp [z1]
  have hF := lk_handed1 Wa b w.heap.size _ Ba (by simp) (Pa.cellv 0 _ rfl)
  rw [za] at hF
  obtain ⟨Wb, hWb⟩ : ∃ W, W = Wa.setCell ⟨b, 6, none⟩ (.map (some (w.heap.size + 1))) := ⟨_, rfl⟩
  have Bb : Blk Wb b _ LkT := hWb ▸ Ba.set 6 (.map (some (w.heap.size + 1)))
  have Pb : Blk Wb w.heap.size #[.pointer (some ⟨b, 0, none⟩)] 24 := hWb ▸ Pa.setOther _ _ (by simp; omega)
  have Cb : Chg (fun k => k = b) w Wb := hWb ▸ Ca.setCell _ _ (.inl rfl)
  have zb : Wb.heap.size = w.heap.size + 1 := by rw [hWb]; simp [za]
  rw [← hWb] at hF
  obtain ⟨Wc, hWc⟩ : ∃ W, W = Wb.alloc (.map #[] 0) := ⟨_, rfl⟩
  have Bc : Blk Wc b _ LkT := hWc ▸ Bb.alloc _
  have Pc : Blk Wc w.heap.size #[.pointer (some ⟨b, 0, none⟩)] 24 := hWc ▸ Pb.alloc _
  have Cc : Chg (fun k => k = b) w Wc := hWc ▸ Cb.alloc _
  have Mc : LkMap Wc (w.heap.size + 1) 0 (fun _ => false) := ⟨.map [], by rw [hWc, ← zb]; exact World.ownsMap_made _ _ _ _, fun t => atKey_nil t⟩
  rw [← hWc] at hF
  obtain ⟨Wd, hWd⟩ : ∃ W, W = (Wc.drew.setCell ⟨b, 3, none⟩ (.int .u32 1)).setCell ⟨b, 3 + 1, none⟩ (.int .i32 0) := ⟨_, rfl⟩
  have Bd : Blk Wd b _ LkT := hWd ▸ (Bc.drew.set 3 (.int .u32 1)).set 4 (.int .i32 0)
  have Pd : Blk Wd w.heap.size #[.pointer (some ⟨b, 0, none⟩)] 24 := hWd ▸ (Pc.drew.setOther _ _ (by simp; omega)).setOther _ _ (by simp; omega)
  have Cd : Chg (fun k => k = b) w Wd := hWd ▸ (Cc.drew.setCell _ _ (.inl rfl)).setCell _ _ (.inl rfl)
  have Cx : Chg (fun k => k = b) Wc Wd := hWd ▸ ((Chg.refl (fun k => k = b) Wc).drew.setCell _ _ (.inl rfl)).setCell _ _ (.inl rfl)
  have Md : LkMap Wd (w.heap.size + 1) 0 (fun _ => false) := Mc.chg Cx (by omega)
  have hcf : ∀ w0 : World, (callFunc 25 #[.pointer (some ⟨w.heap.size, 0, none⟩)]).run Try.prog w0 = .ok (.enter 25 #[.pointer (some ⟨w.heap.size, 0, none⟩)]) w0 := by
    intro w0
    go_simp
  have hD := sy_do_first b 3 25 ⟨w.heap.size, 0, none⟩ W1 Wc hcf (hWa ▸ hF) (B1.cellv 3 _ rfl) (B1.cellv 4 _ rfl) (B1.free 4)
    (Bc.cellv 3 _ (by simp)) (Bc.cellv 4 _ (by simp)) (Bc.free 3) (Bc.free 4)
  rw [← hWd] at hD
  have R : LkOld Wd b wide next 0 (fun _ => false) (w.heap.size + 1) := ⟨by simpa using Bd, by omega, Md⟩
  have d0 := Pd.cellv 0 _ rfl
  have d6 : Wd.cell? ⟨b, 6, none⟩ = some (.map (some (w.heap.size + 1))) := Bd.cellv 6 _ (by simp)
  clear hF hWb hWc hWd hWa Bb Pb Cb zb Bc Pc Cc Mc Bd Pd Cx Md Ba Pa Ca za hcf B1 C1 z1 h P1
  have HW := Lib.hid hW1
  rw [hW1] at hD
  have HD := Lib.hid hD; have HR := Lib.hid R; have HC := Lib.hid Cd; clear hD hW1 R Cd
  go_enter Try.func21, Try.ntmps21
  go_wp2_with (go_at_call 24; refine HD.out.mono ?_; rintro e w' ⟨rfl, rfl⟩)
  go_ret
  exact ⟨w.heap.size + 1, rfl, HR.out, HC.out, .inr (by omega)⟩
end Go.Proofs.Ythlhdgbpfdaodaa
