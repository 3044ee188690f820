/-
  phys.Clone by its contract; two memories that share nothing.
-/
import Derived.Test.YteamkchcpmoicaaPhActs
namespace Go.Proofs.Yteamkchcpmoicaa
open Go.RowKit

theorem copy_all (w : World) (g q g2 F t2 : Nat) (V V2 : Nat → Nat) (hr0 : Row w g (F * 256) V) (hsm : ∀ i, V i < 256) (h2 : MemM w q g2 F V2 t2) :
    ∃ w', (Builtin.copy_ #[57, 57] 3 #[.slice (some ⟨g2, 0, none⟩) (F * 256) (F * 256), .slice (some ⟨g, 0, none⟩) (F * 256) (F * 256)]).run Try.prog w = .ok (goInt (F * 256)) w' ∧ MemM w' q g2 F V t2 ∧ Chg (fun i => i = g2) w w' := by
  obtain ⟨cs, hbk, hs, hv⟩ := hr0
  obtain ⟨cs2, hbk2, hs2, hv2⟩ := h2.row
  have hl : ((List.range (F * 256)).map fun i => Value.int .u8 (V i : Nat)).length = F * 256 := by simp
  have hr := run_copy_row (P := Try.prog) w 57 57 3 ByT g2 0 (F * 256) (F * 256) ⟨g, 0, none⟩ (F * 256) (F * 256) cs2 ByT ((List.range (F * 256)).map fun i => Value.int .u8 (V i : Nat)) Try.underlying57 infoU8s hbk2 (by rw [hl]; exact (Nat.min_self _).symm) (fun j v hj => ?_) (by rw [hl]; omega) (fun v hv => by simp only [List.mem_map] at hv; obtain ⟨_, _, rfl⟩ := hv; rfl)
  · rw [hl] at hr
    refine ⟨_, hr, ⟨(chg_setRow (S := fun k => k = g2) (Chg.refl _ w) (.inl rfl)).blk h2.blk h2.ne, (row_put hbk2 hs2 hv2 0 (F * 256) V _ hl (fun j hj => by simp [hj]) (by omega)).congr (fun i hi => by unfold putV; rw [if_pos (by omega)]; rfl), h2.ne, hsm⟩, chg_setRow (Chg.refl _ _) (.inl rfl)⟩
  · have hj2 : j < F * 256 := by
      have := List.getElem?_eq_some_iff.mp hj
      obtain ⟨h1, _⟩ := this
      simpa using h1
    simp [hj2] at hj
    subst hj
    have hadd : (⟨g, 0, none⟩ : Addr).add j = ⟨g, j, none⟩ := by unfold Addr.add; split <;> simp_all
    rw [hadd, hbk.cell, hv _ (by omega)]

/-- two memories that share nothing, new since B -/
def Two (B : Nat) (w : World) (p q F : Nat) (V U : Nat → Nat) (u : Nat) : Prop :=
  ∃ t o o2, t < 18446744073709551616 ∧ MemA w p o F V t ∧ MemA w q o2 F U u ∧ (∀ k, MemOwn p o k → ¬ MemOwn q o2 k) ∧ (∀ k, MemOwn p o k → B ≤ k) ∧ ∀ k, MemOwn q o2 k → B ≤ k
def StepTwo (B : Nat) (w : World) (p q F : Nat) (V U : Nat → Nat) (u : Nat) (v : Value) (e : Ending) (w' : World) : Prop := e = .returned v ∧ Two B w' p q F V U u ∧ Below B w w'

theorem Two.left {B : Nat} {w w' : World} {p q F u t t' : Nat} {o o2 : Option Nat} {V V' U : Nat → Nat} {v : Value} {e : Ending} (ht : t' < 18446744073709551616) (h1 : MemA w p o F V t) (h2 : MemA w q o2 F U u) (hd : ∀ k, MemOwn p o k → ¬ MemOwn q o2 k)
    (hB : ∀ k, MemOwn p o k → B ≤ k) (hB2 : ∀ k, MemOwn q o2 k → B ≤ k) (k : MemK w p F t' o V' v e w') : StepTwo B w p q F V' U u v e w' := by
  obtain ⟨he, o', hm, hc, hk⟩ := k
  have hp : B ≤ w.heap.size := Nat.le_of_lt (Nat.lt_of_le_of_lt (hB p (.inl rfl)) (h1.lt p (.inl rfl)))
  refine ⟨he, ⟨t', o', o2, ht, hm, h2.chg hc (fun k a b => hd k b a), fun k a b => ?_, fun k a => (hk k a).elim (hB k) (fun h => by omega), hB2⟩, hc.below hp hB⟩
  rcases hk k a with h | h
  · exact hd k h b
  · have := h2.lt k b; omega
theorem Two.right {B : Nat} {w w' : World} {p q F u u' t : Nat} {o o2 : Option Nat} {V U U' : Nat → Nat} {v : Value} {e : Ending} (ht : t < 18446744073709551616) (h1 : MemA w p o F V t) (_h2 : MemA w q o2 F U u) (hd : ∀ k, MemOwn p o k → ¬ MemOwn q o2 k)
    (hB : ∀ k, MemOwn p o k → B ≤ k) (hB2 : ∀ k, MemOwn q o2 k → B ≤ k) (k : MemK w q F u' o2 U' v e w') : StepTwo B w p q F V U' u' v e w' := by
  obtain ⟨he, o', hm, hc, hk⟩ := k
  have hp : B ≤ w.heap.size := Nat.le_of_lt (Nat.lt_of_le_of_lt (hB p (.inl rfl)) (h1.lt p (.inl rfl)))
  refine ⟨he, ⟨t, o, o', ht, h1.chg hc (fun k a b => hd k a b), hm, fun k a b => ?_, hB, fun k a => (hk k a).elim (hB2 k) (fun h => by omega)⟩, hc.below hp hB2⟩
  rcases hk k b with h | h
  · exact hd k a h
  · have := h1.lt k a; omega

theorem two_get_l {B : Nat} {w : World} {p q F u : Nat} {V U : Nat → Nat} (h : Two B w p q F V U u) (hF : F ≤ 256) (at_ : Nat) (hw : at_ < 18446744073709551616) (n : Int) (hn : n ≤ 9223372036854775807) (x : Int) (hx : x = (at_ : Int)) :
    Calls Try.prog 26 #[.pointer (some ⟨p, 0, none⟩), .int .u64 x, .int .i64 n] w (StepTwo B w p q F V U u (.tuple #[.string (gtS F V at_ n), .int .i64 (cdG F at_ n)])) := by
  obtain ⟨t, o, o2, ht, h1, h2, hd, hB, hB2⟩ := h
  subst hx
  exact (m_get w p F t hF o V h1 at_ hw n hn).mono fun _ _ k => Two.left ht h1 h2 hd hB hB2 k
theorem two_get_r {B : Nat} {w : World} {p q F u : Nat} {V U : Nat → Nat} (h : Two B w p q F V U u) (hF : F ≤ 256) (at_ : Nat) (hw : at_ < 18446744073709551616) (n : Int) (hn : n ≤ 9223372036854775807) (x : Int) (hx : x = (at_ : Int)) :
    Calls Try.prog 26 #[.pointer (some ⟨q, 0, none⟩), .int .u64 x, .int .i64 n] w (StepTwo B w p q F V U u (.tuple #[.string (gtS F U at_ n), .int .i64 (cdG F at_ n)])) := by
  obtain ⟨t, o, o2, ht, h1, h2, hd, hB, hB2⟩ := h
  subst hx
  exact (m_get w q F u hF o2 U h2 at_ hw n hn).mono fun _ _ k => Two.right ht h1 h2 hd hB hB2 k
theorem two_put_r {B : Nat} {w : World} {p q F u : Nat} {V U : Nat → Nat} (h : Two B w p q F V U u) (hF : F ≤ 256) (at_ : Nat) (hw : at_ < 18446744073709551616) (s : ByteArray) (hs : s.size ≤ maxLen) :
    Calls Try.prog 25 #[.pointer (some ⟨q, 0, none⟩), .int .u64 at_, .string s] w (StepTwo B w p q F V (ptV F U at_ s) u (.int .i64 (cdP F at_ s))) := by
  obtain ⟨t, o, o2, ht, h1, h2, hd, hB, hB2⟩ := h
  exact (m_put w q F u hF o2 U h2 at_ hw s hs).mono fun _ _ k => Two.right ht h1 h2 hd hB hB2 k
theorem two_clear_l {B : Nat} {w : World} {p q F u : Nat} {V U : Nat → Nat} (h : Two B w p q F V U u) (hF : F ≤ 256) (f : Int) :
    Calls Try.prog 28 #[.pointer (some ⟨p, 0, none⟩), .int .i64 f] w (StepTwo B w p q F (clV F V f) U u (.int .i64 (cdF F f))) := by
  obtain ⟨t, o, o2, ht, h1, h2, hd, hB, hB2⟩ := h
  exact (m_clear w p F t hF o V h1 f).mono fun _ _ k => Two.left ht h1 h2 hd hB hB2 k
theorem two_touched_r {B : Nat} {w : World} {p q F u : Nat} {V U : Nat → Nat} (h : Two B w p q F V U u) :
    Calls Try.prog 38 #[.pointer (some ⟨q, 0, none⟩)] w fun e w' => e = .returned (.int .u64 u) ∧ w = w' := by
  obtain ⟨t, o, o2, ht, h1, h2, hd, hB, hB2⟩ := h
  exact mem_touched w q F u o2 U h2

/-- Clone -/
def Cloned (B : Nat) (w : World) (p F : Nat) (V : Nat → Nat) (e : Ending) (w' : World) : Prop :=
  ∃ q, e = .returned (.pointer (some ⟨q, 0, none⟩)) ∧ Two B w' p q F V V 0 ∧ Below B w w'
set_option maxHeartbeats 800000 in
theorem mem_clone {B : Nat} {w : World} {p F : Nat} {V : Nat → Nat} (h : MT B w p F V) (hF : F ≤ 256) :
    Calls Try.prog 40 #[.pointer (some ⟨p, 0, none⟩)] w (Cloned B w p F V) := by
  obtain ⟨t, ht, o, hm, hB⟩ := h
  have c0 := hm.cell0
  have hB0 : B ≤ w.heap.size := Nat.le_of_lt (Nat.lt_of_le_of_lt (hB p (.inl rfl)) (hm.lt p (.inl rfl)))
  have hc1 : Chg (fun _ => False) w (w.alloc (.cells (memC F 0 (.slice none 0 0) 0) MemT)) := (Chg.refl _ _).alloc _
  have hn1 : MemU (w.alloc (.cells (memC F 0 (.slice none 0 0) 0) MemT)) w.heap.size F 0 := ⟨Blk.new w _ _⟩
  have hm1 := hm.chg hc1 (fun _ _ h => h)
  have HB1 := Lib.hid (mem_bytes _ w.heap.size F 0 hF none _ (.un hn1))
  have H2 := fun W (H : MemA W p o F V t) => Lib.hid (mem_bytes W p F t hF o V H)
  have HB2 := Lib.hid H2
  have HH := Lib.hid (And.intro hm (And.intro hB (And.intro hB0 (And.intro hc1 (And.intro hn1 hm1)))))
  clear hm hB hB0 hc1 hn1 hm1 H2
  go_enter Try.func40, Try.ntmps40
  go_wp2_with fail
  refine HB1.out.mono ?_
  rintro e w1 ⟨g, rfl, k1, k2, k3⟩
  obtain ⟨hm, hB, hB0, hc1, hn1, hm1⟩ := HH.out
  have hp1 : p < w.heap.size := hm.lt p (.inl rfl)
  have hm2 := hm1.chg k2 (fun k a b => by have := hm.lt k a; omega)
  have hg : w.heap.size ≤ g := by
    rcases k3 with h | ⟨_, h⟩
    · cases h
    · have := hc1.size; omega
  have hgne : g ≠ w.heap.size := fun h => k1.ne h.symm
  have K := Lib.hid (And.intro k1 (And.intro k2 (And.intro hg hgne)))
  have HM2 := Lib.hid hm2
  clear hm hB hB0 hc1 hn1 hm1 k1 k2 k3 hm2 hg hgne
  go_wp2_with fail
  refine (HB2.out w1 HM2.out).out.mono ?_
  rintro e w2 ⟨g2, rfl, l1, l2, l3⟩
  obtain ⟨hm, hB, hB0, hc1, hn1, hm1⟩ := HH.out
  obtain ⟨k1, k2, hg, hgne⟩ := K.out
  have n1 : ¬ g = p := fun h => by have := hm.lt p (.inl rfl); omega
  have n2 : ¬ w.heap.size = p := fun h => by have := hm.lt p (.inl rfl); omega
  have k1' := k1.chg l2 (by exact n2) n1
  have hng : g2 ≠ g := by
    rintro rfl
    rcases l3 with h | ⟨_, h⟩
    · have := hm.lt g2 (.inr h); omega
    · have := k1.row.lt; omega
  have hng2 : g2 ≠ w.heap.size := by
    rintro rfl
    rcases l3 with h | ⟨_, h⟩
    · have := hm.lt _ (.inr h); omega
    · have := k1.blk.lt; omega
  have hgB : B ≤ g2 := by
    rcases l3 with h | ⟨_, h⟩
    · exact hB _ (.inr h)
    · have := k1.blk.lt; omega
  obtain ⟨w3, hcp, h5, h6⟩ := copy_all w2 g2 w.heap.size g F 0 V _ l1.row l1.small k1'
  have hm3 := l1.chg h6 (fun h => n1 h.symm) hng
  have hb : Below B w w3 := (hc1.below hB0 (fun _ h => h.elim)).trans ((k2.below (by have := hc1.size; omega) (fun k h => by omega)).trans ((l2.below (by have := k2.size; have := hc1.size; omega) (fun k h => by have := hB p (.inl rfl); omega)).trans (h6.below (by have := l2.size; have := k2.size; have := hc1.size; omega) (fun k h => by omega))))
  have hdis : ∀ k, MemOwn p (some g2) k → ¬ MemOwn w.heap.size (some g) k := by
    rintro k (rfl | h) (h' | h')
    · exact n2 h'.symm
    · cases h'; exact n1 rfl
    · cases h; exact hng2 h'
    · cases h; cases h'; exact hng rfl
  have hO1 : ∀ k, MemOwn p (some g2) k → B ≤ k := by
    rintro k (rfl | h)
    · exact hB _ (.inl rfl)
    · cases h; exact hgB
  have hO2 : ∀ k, MemOwn w.heap.size (some g) k → B ≤ k := by
    rintro k (rfl | h)
    · exact hB0
    · cases h; omega
  have R := Lib.hid (show Cloned B w p F V (.returned (.pointer (some ⟨w.heap.size, 0, none⟩))) w3 from ⟨_, rfl, ⟨t, some g2, some g, ht, .made hm3, .made h5, hdis, hO1, hO2⟩, hb⟩)
  clear hm hB hB0 hc1 hn1 hm1 k1 k2 hg hgne n1 n2 k1' hng hng2 hgB h5 h6 hm3 hb hdis hO1 hO2 l1 l2 l3
  go_wp2_with fail
  go_ret
  exact R.out
end Go.Proofs.Yteamkchcpmoicaa
