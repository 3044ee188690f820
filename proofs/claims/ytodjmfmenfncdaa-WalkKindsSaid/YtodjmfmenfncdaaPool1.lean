/-
  The pool of frames: what it is; Taken, Left, Mem by their contracts.
-/
import Derived.Test.YtodjmfmenfncdaaPhActs
import Derived.Maps.OwnSet
namespace Go.Proofs.Ytodjmfmenfncdaa
open Go.RowKit Go.Maps

abbrev PoolT : TypeId := 92
abbrev UnT : TypeId := 112
abbrev FmT : TypeId := 90
abbrev InT : TypeId := 3
theorem lawInt : Keyed Try.prog InT := int_keyed Try.underlying3
theorem zeroUn (w : World) : (zeroValue UnT).run Try.prog w = .ok (.agg #[]) w := by kernel_rfl

def cnt (Fr : Nat → Bool) (a : Nat) : Nat → Nat
  | 0 => 0
  | n + 1 => cnt Fr a n + (if Fr (a + n) then 1 else 0)
def setF (Fr : Nat → Bool) (f : Nat) (v : Bool) : Nat → Bool := fun g => if g = f then v else Fr g
theorem cnt_congr {Fr Gr : Nat → Bool} {a : Nat} : ∀ n, (∀ i, i < n → Fr (a + i) = Gr (a + i)) → cnt Fr a n = cnt Gr a n
  | 0, _ => rfl
  | n + 1, h => by rw [cnt, cnt, cnt_congr n (fun i hi => h i (by omega)), h n (by omega)]
theorem cnt_le (Fr : Nat → Bool) (a : Nat) : ∀ n, cnt Fr a n ≤ n
  | 0 => Nat.le_refl _
  | n + 1 => by have := cnt_le Fr a n; rw [cnt]; split <;> omega
theorem cnt_setF (Fr : Nat → Bool) (f : Nat) (v : Bool) (a : Nat) : ∀ n, a ≤ f → f < a + n → cnt (setF Fr f v) a n + (if Fr f then 1 else 0) = cnt Fr a n + (if v then 1 else 0)
  | 0, h1, h2 => by omega
  | n + 1, h1, h2 => by
    by_cases e : f = a + n
    · subst e
      have := cnt_congr (Fr := setF Fr (a + n) v) (Gr := Fr) (a := a) n (fun i hi => by unfold setF; rw [if_neg (by omega)])
      rw [cnt, cnt, this]
      have e2 : setF Fr (a + n) v (a + n) = v := by unfold setF; rw [if_pos rfl]
      rw [e2]; omega
    · have := cnt_setF Fr f v a n h1 (by omega)
      have e2 : setF Fr f v (a + n) = Fr (a + n) := by unfold setF; rw [if_neg (by omega)]
      rw [cnt, cnt, e2]; omega
theorem cnt_none {Fr : Nat → Bool} {a : Nat} : ∀ n, cnt Fr a n = 0 → ∀ i, i < n → Fr (a + i) = false
  | 0, _, i, hi => by omega
  | n + 1, h, i, hi => by
    rw [cnt] at h
    have hz : cnt Fr a n = 0 := by omega
    by_cases e : i = n
    · subst e
      cases hf : Fr (a + i) with
      | false => rfl
      | true => simp [hf] at h
    · exact cnt_none n hz i (by omega)

/-- block b is the map of the free frames, all of first .. F - 1 -/
def FreeD (D : DataW Unit) (first F : Nat) (Fr : Nat → Bool) : Prop :=
  Tidy D ∧ (∀ f : Nat, Maps.has D (.int .i64 (f : Int)) = Fr f) ∧ Maps.size D = cnt Fr first (F - first) ∧ ∀ f, Fr f = true → first ≤ f ∧ f < F
def FreeMap (w : World) (b first F : Nat) (Fr : Nat → Bool) : Prop := ∃ D : DataW Unit, w.ownsMap Try.prog InT unitElem b (Maps.size D) D ∧ FreeD D first F Fr

theorem FreeMap.lt {w : World} {b first F : Nat} {Fr : Nat → Bool} (h : FreeMap w b first F Fr) : b < w.heap.size := by
  obtain ⟨D, ⟨es, clock, hb, _⟩, _⟩ := h
  exact lt_of_block hb
theorem owns_chg {P : Program} {k : TypeId} {R : Value → Option (DataW Unit × List MemPlace)} {S : Nat → Prop} {w w' : World} {b n : Nat} {D : DataW Unit} (h : w.ownsMap P k R b n D) (c : Chg S w w') (hn : ¬ S b) : w'.ownsMap P k R b n D := by
  obtain ⟨es, clock, hb, r⟩ := h
  exact ⟨es, clock, (c.block b (lt_of_block hb) hn).trans hb, r⟩
theorem FreeMap.chg {S : Nat → Prop} {w w' : World} {b first F : Nat} {Fr : Nat → Bool} (h : FreeMap w b first F Fr) (c : Chg S w w') (hn : ¬ S b) : FreeMap w' b first F Fr := by
  obtain ⟨D, hD, r⟩ := h
  exact ⟨D, owns_chg hD c hn, r⟩
theorem owns_tight {P : Program} {k : TypeId} {R : Value → Option (DataW Unit × List MemPlace)} {w : World} {b n : Nat} {D : DataW Unit} (h : w.ownsMap P k R b n D) : w.ownsMap P k R b (Maps.size D) D := by
  obtain ⟨es, clock, hb, F, hs, rfl⟩ := h
  refine ⟨es, clock, hb, F, ?_, rfl⟩
  simp [Maps.size, length_sorted]
theorem isKeyInt (x : Int) : WideAt.IsKeyLit (.int .i64 x) := by simp [WideAt.IsKeyLit]
theorem FreeD.size {D : DataW Unit} {first F : Nat} {Fr : Nat → Bool} (h : FreeD D first F Fr) : Maps.size D ≤ F - first := by
  rw [h.2.2.1]; exact cnt_le _ _ _
theorem FreeD.put {D : DataW Unit} {first F f : Nat} {Fr : Nat → Bool} (h : FreeD D first F Fr) (h1 : first ≤ f) (h2 : f < F) (hf : Fr f = false) (d : DataW Unit) : FreeD (D.put (.int .i64 (f : Int)) d) first F (setF Fr f true) := by
  obtain ⟨t, hh, hs, hr⟩ := h
  refine ⟨t.put (isKeyInt _) d, fun g => ?_, ?_, fun g hg => ?_⟩
  · by_cases e : g = f
    · subst e
      rw [has_put_same t.isMap (isKeyInt _)]; unfold setF; rw [if_pos rfl]
    · rw [has_put_other (by intro h; cases h; omega), hh g]; unfold setF; rw [if_neg e]
  · rw [size_put t, hh f, hf, hs]
    have := cnt_setF Fr f true first (F - first) h1 (by omega)
    simp [hf] at this
    simp; omega
  · unfold setF at hg
    split at hg
    · omega
    · exact hr g hg
theorem FreeD.del {D : DataW Unit} {first F f : Nat} {Fr : Nat → Bool} (h : FreeD D first F Fr) (hf : Fr f = true) : FreeD (D.del (.int .i64 (f : Int))) first F (setF Fr f false) := by
  obtain ⟨t, hh, hs, hr⟩ := h
  have hfr := hr f hf
  refine ⟨t.del _, fun g => ?_, ?_, fun g hg => ?_⟩
  · by_cases e : g = f
    · subst e
      rw [has_del_same]; unfold setF; rw [if_pos rfl]
    · rw [has_del_other (by intro h; cases h; omega), hh g]; unfold setF; rw [if_neg e]
  · have h1 := size_del (k := .int .i64 (f : Int)) t
    rw [hh f, hf, hs] at h1
    have := cnt_setF Fr f false first (F - first) hfr.1 (by omega)
    simp [hf] at this h1
    omega
  · unfold setF at hg
    split at hg
    · cases hg
    · exact hr g hg

/-- a pool: its own block q, its map b, its memory p with its bytes o -/
structure PoolA (w : World) (q b p : Nat) (o : Option Nat) (F first : Nat) (Fr : Nat → Bool) (V : Nat → Nat) (t : Nat) : Prop where
  mem : MemA w p o F V t
  blk : Blk w q #[.pointer (some ⟨p, 0, none⟩), .int .i64 first, .map (some b)] PoolT
  fm : FreeMap w b first F Fr
  nq : ∀ k, MemOwn p o k → k ≠ q ∧ k ≠ b
  qb : q ≠ b
  le : first ≤ F
def PoolOwn (q b p : Nat) (o : Option Nat) (k : Nat) : Prop := k = q ∨ k = b ∨ MemOwn p o k
theorem PoolA.chg {S : Nat → Prop} {w w' : World} {q b p F first t : Nat} {o : Option Nat} {Fr : Nat → Bool} {V : Nat → Nat} (h : PoolA w q b p o F first Fr V t) (c : Chg S w w') (hn : ∀ k, PoolOwn q b p o k → ¬ S k) : PoolA w' q b p o F first Fr V t :=
  ⟨h.mem.chg c (fun k a => hn k (.inr (.inr a))), c.blk h.blk (hn _ (.inl rfl)), h.fm.chg c (hn _ (.inr (.inl rfl))), h.nq, h.qb, h.le⟩
theorem PoolA.lt {w : World} {q b p F first t : Nat} {o : Option Nat} {Fr : Nat → Bool} {V : Nat → Nat} (h : PoolA w q b p o F first Fr V t) : ∀ k, PoolOwn q b p o k → k < w.heap.size := by
  rintro k (rfl | rfl | a)
  · exact h.blk.lt
  · exact h.fm.lt
  · exact h.mem.lt k a
/-- what a call on a pool leaves -/
def PoolK (w : World) (q b p F first t : Nat) (o : Option Nat) (Fr : Nat → Bool) (V : Nat → Nat) (v : Value) (e : Ending) (w' : World) : Prop :=
  e = .returned v ∧ ∃ o', PoolA w' q b p o' F first Fr V t ∧ Chg (PoolOwn q b p o) w w' ∧ ∀ k, MemOwn p o' k → MemOwn p o k ∨ w.heap.size ≤ k

theorem pool_mem (w : World) (q b p F first t : Nat) (o : Option Nat) (Fr : Nat → Bool) (V : Nat → Nat) (h : PoolA w q b p o F first Fr V t) :
    Calls Try.prog 51 #[.pointer (some ⟨q, 0, none⟩)] w fun e w' => e = .returned (.pointer (some ⟨p, 0, none⟩)) ∧ w = w' := by
  have c0 := h.blk.cellv 0 _ rfl
  clear h
  go_enter Try.func51, Try.ntmps51
  go_wp2_with fail
  go_ret
  exact ⟨rfl, rfl⟩

set_option maxHeartbeats 800000 in
theorem pool_left (w : World) (q b p F first t : Nat) (o : Option Nat) (Fr : Nat → Bool) (V : Nat → Nat) (h : PoolA w q b p o F first Fr V t) :
    Calls Try.prog 22 #[.pointer (some ⟨q, 0, none⟩)] w fun e w' => e = .returned (.int .i64 (cnt Fr first (F - first) : Nat)) ∧ w = w' := by
  have c2 := h.blk.cellv 2 _ rfl
  obtain ⟨D, hown, hD⟩ := h.fm
  rw [← hD.2.2.1]
  clear h hD
  go_enter Try.func22, Try.ntmps22
  go_wp2_with (at_len; refine wpList_len_own _ rfl _ FmT rfl InT UnT Try.underlying90 _ b (Maps.size D) D rfl hown ?_)
  go_ret
  exact ⟨rfl, rfl⟩

set_option maxRecDepth 100000 in
set_option maxHeartbeats 800000 in
theorem pool_taken (w : World) (q b p F first t : Nat) (hF : F ≤ 256) (o : Option Nat) (Fr : Nat → Bool) (V : Nat → Nat) (h : PoolA w q b p o F first Fr V t) (f : Int) :
    Calls Try.prog 75 #[.pointer (some ⟨q, 0, none⟩), .int .i64 f] w fun e w' => e = .returned (.bool (decide ((first : Int) ≤ f ∧ f < (F : Int)) && !Fr f.toNat)) ∧ Chg (fun _ => False) w w' := by
  have c0 := h.blk.cellv 0 _ rfl
  have c1 := h.blk.cellv 1 _ rfl
  have c2 := h.blk.cellv 2 _ rfl
  have HF := Lib.hid (phys_frames w p F t o V h.mem)
  obtain ⟨D, hown, hD⟩ := h.fm
  by_cases h1 : f < (first : Int)
  · have d1 : decide (f < (first : Int)) = true := decide_eq_true h1
    rw [show decide ((first : Int) ≤ f ∧ f < (F : Int)) = false from decide_eq_false (by omega)]
    clear h hD hown
    go_enter Try.func75, Try.ntmps75
    go_wp2_with fail
    go_ret
    exact ⟨by simp, Chg.refl _ _⟩
  · have d1 : decide (f < (first : Int)) = false := decide_eq_false h1
    by_cases h2 : (F : Int) ≤ f
    · have d2 : decide ((F : Int) ≤ f) = true := decide_eq_true h2
      rw [show decide ((first : Int) ≤ f ∧ f < (F : Int)) = false from decide_eq_false (by omega)]
      clear h hD hown
      go_enter Try.func75, Try.ntmps75
      go_wp2_with fail
      refine HF.out.mono ?_
      rintro e w' ⟨rfl, rfl⟩
      go_wp2_with fail
      go_ret
      exact ⟨by simp, Chg.refl _ _⟩
    · have d2 : decide ((F : Int) ≤ f) = false := decide_eq_false h2
      rw [show decide ((first : Int) ≤ f ∧ f < (F : Int)) = true from decide_eq_true (by omega)]
      obtain ⟨g, rfl⟩ := Int.eq_ofNat_of_zero_le (show 0 ≤ f by omega)
      have hkey : keyOf Try.prog InT (.int .i64 (g : Int)) = some (.int .i64 (g : Int)) := keyOf_int_mk Try.underlying3 (WalkArith.wf_i64 (by omega))
      have hh := hD.2.1 g
      rw [Int.toNat_natCast, Bool.true_and]
      have HH := Lib.hid hh
      clear h hD hh
      go_enter Try.func75, Try.ntmps75
      go_wp2_with fail
      refine HF.out.mono ?_
      rintro e w' ⟨rfl, rfl⟩
      go_wp2_with (at_lookup; refine wpList_lookup_own_unit _ rfl _ _ FmT rfl InT UnT lawInt Try.underlying90 (zeroUn _) b (Maps.size D) D rfl hown _ _ rfl hkey ?_)
      go_ret
      exact ⟨by rw [HH.out]; rfl, (Chg.refl _ _).alloc _⟩
end Go.Proofs.Ytodjmfmenfncdaa
