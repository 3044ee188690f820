/-
  The reference's lock: Ask and Pass, by contracts.
-/
import Derived.Test.YthlhdgbpfdaodaaLock8
namespace Go.Proofs.Ythlhdgbpfdaodaa
open Go.RowKit Go.Maps

theorem Try.infoBool : (Try.prog.info? 4).map (fun i => (i.zero, i.size, i.bytes)) = some (some (.bool false), 1, 1) := by kernel_rfl

def RfStep (w : World) (r wide : Nat) (sa0 : Option Addr) (L : List Bool) (passed : Nat) (w' : World) : Prop :=
  ∃ sa cap, RfAt w' r wide L passed sa cap ∧ Chg (RfFp r sa0) w w' ∧ ∀ k, RfFp r sa k → RfFp r sa0 k ∨ w.heap.size ≤ k

theorem rf_nonnil {w : World} {v : Value} {n : Nat} {xs : List Value} (h : w.ownsRow 0 4 1 v (n + 1) xs) : ∃ g cap', v = .slice (some ⟨g, 0, none⟩) (n + 1) cap' := by
  rcases h.2 with ⟨_, h⟩ | ⟨g, cap', _, h, _⟩
  · omega
  · exact ⟨g, cap', h⟩

theorem rf_ask_facts {w w1 : World} {r wide passed : Nat} {L : List Bool} {sa : Option Addr} {cap g cap' : Nat} (h : RfAt w r wide L passed sa cap)
    (hown1 : w1.ownsRow 0 4 1 (.slice (some ⟨g, 0, none⟩) (L.length + 1) cap') (L.length + 1) (L.map Value.bool ++ [.bool false]))
    (hgrow1 : (w.alloc (.cells #[.bool false] 4)).grownBy w1 (Value.slice sa L.length cap).ownBlock)
    (hat1 : (Value.slice (some ⟨g, 0, none⟩) (L.length + 1) cap').ownBlock = (Value.slice sa L.length cap).ownBlock ∨ (Value.slice (some ⟨g, 0, none⟩) (L.length + 1) cap').ownBlock = some (w.alloc (.cells #[.bool false] 4)).heap.size) :
    w1.cell? ⟨r, 1, none⟩ = some (.slice sa L.length cap) ∧ w1.frozen? ⟨r, 1, none⟩ = false ∧
    (w1.setCell ⟨r, 1, none⟩ (.slice (some ⟨g, 0, none⟩) (L.length + 1) cap')).cell? ⟨r, 1, none⟩ = some (.slice (some ⟨g, 0, none⟩) (L.length + 1) cap') ∧
    RfStep w r wide sa (L ++ [false]) passed (w1.setCell ⟨r, 1, none⟩ (.slice (some ⟨g, 0, none⟩) (L.length + 1) cap')) := by
  have hr := h.1.lt
  have C1 : Chg (RfFp r sa) w w1 := ((Chg.refl (RfFp r sa) w).alloc _).grown hgrow1 (by
    intro k hk
    cases sa with
    | none => simp [Value.ownBlock] at hk
    | some a => simp [Value.ownBlock] at hk; exact .inl (.inr ⟨a, rfl, hk.symm⟩))
  have Cr : Chg (fun k => ∃ a, sa = some a ∧ k = a.block) w w1 := ((Chg.refl (fun k => ∃ a, sa = some a ∧ k = a.block) w).alloc _).grown hgrow1 (by
    intro k hk
    cases sa with
    | none => simp [Value.ownBlock] at hk
    | some a => simp [Value.ownBlock] at hk; exact .inl ⟨a, rfl, hk.symm⟩)
  have B1 := Cr.blk h.1 (by rintro ⟨a, ha, hk⟩; exact h.2.2 a ha hk.symm)
  have hgr : g ≠ r := by
    rintro rfl
    rcases hat1 with h' | h'
    · cases sa with
      | none => simp [Value.ownBlock] at h'
      | some a => simp [Value.ownBlock] at h'; exact h.2.2 a rfl h'.symm
    · simp [Value.ownBlock] at h'; omega
  have hg1 : ∀ k, RfFp r (some ⟨g, 0, none⟩) k → RfFp r sa k ∨ w.heap.size ≤ k := by
    rintro k (rfl | ⟨a, ha, rfl⟩)
    · exact .inl (.inl rfl)
    · injection ha with ha; subst ha
      rcases hat1 with h' | h'
      · cases sa with
        | none => simp [Value.ownBlock] at h'
        | some a => simp [Value.ownBlock] at h'; exact .inl (.inr ⟨a, rfl, h'⟩)
      · simp [Value.ownBlock] at h'; right; simp; omega
  refine ⟨B1.cellv 1 _ rfl, B1.free 1, (B1.set 1 _).cellv 1 _ (by simp), some ⟨g, 0, none⟩, cap', ⟨?_, ?_, ?_⟩, C1.setCell _ _ (.inl (.inl rfl)), hg1⟩
  · have := B1.set 1 (.slice (some ⟨g, 0, none⟩) (L.length + 1) cap')
    simpa using this
  · have := ownsRow_setCell_other hown1 (a := ⟨r, 1, none⟩) (by simp [Value.ownBlock]; exact hgr) (.slice (some ⟨g, 0, none⟩) (L.length + 1) cap')
    simpa using this
  · intro a ha
    injection ha with ha; subst ha
    exact hgr

set_option maxHeartbeats 800000 in
theorem rf_ask (w : World) (r wide passed : Nat) (L : List Bool) (sa : Option Addr) (cap : Nat) (h : RfAt w r wide L passed sa cap) (hl : L.length + 1 ≤ 140737488355328) :
    Calls Try.prog 10 #[.pointer (some ⟨r, 0, none⟩)] w fun e w' => e = .returned (.int .u64 L.length) ∧ RfStep w r wide sa (L ++ [false]) passed w' := by
  have hr := h.1.lt
  have c1 : w.cell? ⟨r, 1, none⟩ = some (.slice sa L.length cap) := h.1.cellv 1 _ rfl
  have f1 := h.1.free 1
  obtain ⟨i0, hi, hz0, hz1, hz2⟩ := info_parts Try.infoBool
  have H := Lib.hid h; clear h
  have hb1 : (L.length : Int) ≤ 4611686018427387904 := by omega
  have hm : L.length + 1 ≤ maxLen := by unfold maxLen; omega
  go_enter Try.func10, Try.ntmps10
  go_wp2_with (at_builtin; refine wpList_append_own_at _ rfl (.tmp 7) (.tmp 8) 30 rfl 0 4 i0 (.bool false) 1 1 Try.underlying30 hi hz0 hz1 hz2 rfl (by decide) _ _ _ rfl (H.out.2.1.alloc _) ⟨w.heap.size, 0, none⟩ 1 1 [.bool false] rfl rfl (cell_one_new _ _ _) (by simp [Value.oneCell']) hm (by omega) (by simp) ?_; intro v' w1 hown1 hgrow1 _ hat1; obtain ⟨g, cap', rfl⟩ := rf_nonnil hown1; obtain ⟨d1, e1, dn, S⟩ := rf_ask_facts H.out hown1 hgrow1 hat1; have HS := Lib.hid S; clear S hown1 hgrow1 hat1)
  go_ret
  exact ⟨ret_int (by omega), HS.out⟩

theorem rf_pass_no (w : World) (r wide passed t : Nat) (L : List Bool) (sa : Option Addr) (cap : Nat) (h : RfAt w r wide L passed sa cap) (hq : passed + wide ≤ 4611686018427387904) (hb : L.length ≤ 4611686018427387904)
    (hr : rfHas wide passed L t = false) :
    Calls Try.prog 12 #[.pointer (some ⟨r, 0, none⟩), .int .u64 t] w fun e w' => e = .returned (.int .i64 1) ∧ ∃ n, w' = w.drewN n := by
  have hc := rf_has w r wide passed t L sa cap h hq hb
  rw [hr] at hc
  have HC := Lib.hid hc; clear hc hr h hb hq
  go_enter Try.func12, Try.ntmps12
  go_wp2_with fail
  refine HC.out.mono ?_
  rintro e w1 ⟨rfl, n, rfl⟩
  go_wp2_with fail
  go_ret
  exact ⟨rfl, _, rfl⟩

theorem map_set_bool (L : List Bool) (t : Nat) : (L.map Value.bool).set t (.bool true) = (L.set t true).map Value.bool := by simp

set_option maxHeartbeats 800000 in
theorem rf_pass_yes (w : World) (r wide passed t : Nat) (L : List Bool) (sa : Option Addr) (cap : Nat) (h : RfAt w r wide L passed sa cap) (hq : passed + wide ≤ 4611686018427387904) (hb : L.length ≤ 4611686018427387904)
    (hr : rfHas wide passed L t = true) :
    Calls Try.prog 12 #[.pointer (some ⟨r, 0, none⟩), .int .u64 t] w fun e w' => e = .returned (.int .i64 0) ∧ RfStep w r wide sa (L.set t true) (passed + 1) w' := by
  have hc := rf_has w r wide passed t L sa cap h hq hb
  rw [hr] at hc
  have ht : t < L.length := by simp [rfHas, lkHas] at hr; omega
  obtain ⟨g, rfl, hgr, ct, ft⟩ := h.cell t ht
  have c1 := h.1.cellv 1 _ rfl
  have c2 := h.1.cellv 2 _ rfl
  have f2 := h.1.free 2
  have hrg := Ne.symm hgr
  have hs : IntKind.i64.wrap ((passed : Int) + 1) = (passed : Int) + 1 := by
    unfold IntKind.wrap
    simp [IntKind.bits, IntKind.signed]
    omega
  have ti0 : (0 : Int) ≤ (t : Int) := by omega
  have ti1 : (t : Int) < (L.length : Int) := by omega
  have S : ∀ n, RfStep w r wide (some ⟨g, 0, none⟩) (L.set t true) (passed + 1) (((w.drewN n).setCell ⟨g, t, none⟩ (.bool true)).setCell ⟨r, 2, none⟩ (.int .i64 ((passed : Int) + 1))) := by
    intro n
    have hst := h.2.1.stored t (.bool true)
    refine ⟨some ⟨g, 0, none⟩, cap, ⟨?_, ?_, h.2.2⟩, ((((Chg.refl (RfFp r (some ⟨g, 0, none⟩)) w).drewN n).setCell ⟨g, t, none⟩ _ (.inl (.inr ⟨_, rfl, rfl⟩))).setCell ⟨r, 2, none⟩ _ (.inl (.inl rfl))), fun k hk => .inl hk⟩
    · have b0 : Blk ((w.drewN n).setCell ⟨g, t, none⟩ (.bool true)) r _ RfT := Blk.setOther (w := w.drewN n) h.1 ⟨g, t, none⟩ (.bool true) hrg
      have := b0.set 2 (.int .i64 ((passed : Int) + 1))
      simpa using this
    · have h1 : ((w.drewN n).setCell ⟨g, t, none⟩ (.bool true)).ownsRow 0 4 1 (.slice (some ⟨g, 0, none⟩) L.length cap) L.length ((L.map Value.bool).set t (.bool true)) := hst.1
      rw [map_set_bool] at h1
      have := ownsRow_setCell_other h1 (a := ⟨r, 2, none⟩) (by simp [Value.ownBlock]; exact hgr) (.int .i64 ((passed : Int) + 1))
      simpa using this
  have HC := Lib.hid hc; have HS := Lib.hid S; clear hc hr h hb hq S
  go_enter Try.func12, Try.ntmps12
  go_wp2_with fail
  refine HC.out.mono ?_
  rintro e w1 ⟨rfl, n, rfl⟩
  go_wp2_with fail
  go_ret
  exact ⟨rfl, HS.out n⟩
end Go.Proofs.Ythlhdgbpfdaodaa
