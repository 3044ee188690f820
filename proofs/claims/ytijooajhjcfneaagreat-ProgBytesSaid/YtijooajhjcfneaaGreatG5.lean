/-
  Several texts in one: Pool1, Pool2, Pool3, SpBase, WdBack.
-/
import Derived.Test.YtijooajhjcfneaaGreatG4
import Derived.Maps.OwnSet
import Derived.WalkMore
namespace Go.Proofs.YtijooajhjcfneaaGreat
open Go.RowKit Go.Maps

abbrev PoolT : TypeId := 97
abbrev UnT : TypeId := 78
abbrev FmT : TypeId := 95
abbrev InT : TypeId := 3
theorem lawInt : Keyed Tryz.prog InT := int_keyed Tryz.underlying3
theorem zeroUn (w : World) : (zeroValue UnT).run Tryz.prog w = .ok (.agg #[]) w := by kernel_rfl

def cnt (Fr : Nat → Bool) (a : Nat) : Nat → Nat
  | 0 => 0
  | n + 1 => cnt Fr a n + (if Fr (a + n) then 1 else 0)
def setF (Fr : Nat → Bool) (f : Nat) (v : Bool) : Nat → Bool := fun g => if g = f then v else Fr g
theorem cnt_congr {Fr Gr : Nat → Bool} {a : Nat} : ∀ n, (∀ i, i < n → Fr (a + i) = Gr (a + i)) → cnt Fr a n = cnt Gr a n
  | 0, _ => rfl
  | n + 1, h => by rw [cnt, cnt, cnt_congr n (fun i hi => h i (by omega)), h n (by omega)]
theorem cnt_le (Fr : Nat → Bool) (a : Nat) : ∀ n, cnt Fr a n ≤ n
  | 0 => Nat.le_refl _
  | n + 1 => by have := cnt_le Fr a n; rw [cnt]; split <;> omega
theorem cnt_setF (Fr : Nat → Bool) (f : Nat) (v : Bool) (a : Nat) : ∀ n, a ≤ f → f < a + n → cnt (setF Fr f v) a n + (if Fr f then 1 else 0) = cnt Fr a n + (if v then 1 else 0)
  | 0, h1, h2 => by omega
  | n + 1, h1, h2 => by
    by_cases e : f = a + n
    · subst e
      have := cnt_congr (Fr := setF Fr (a + n) v) (Gr := Fr) (a := a) n (fun i hi => by unfold setF; rw [if_neg (by omega)])
      rw [cnt, cnt, this]
      have e2 : setF Fr (a + n) v (a + n) = v := by unfold setF; rw [if_pos rfl]
      rw [e2]; omega
    · have := cnt_setF Fr f v a n h1 (by omega)
      have e2 : setF Fr f v (a + n) = Fr (a + n) := by unfold setF; rw [if_neg (by omega)]
      rw [cnt, cnt, e2]; omega
theorem cnt_none {Fr : Nat → Bool} {a : Nat} : ∀ n, cnt Fr a n = 0 → ∀ i, i < n → Fr (a + i) = false
  | 0, _, i, hi => by omega
  | n + 1, h, i, hi => by
    rw [cnt] at h
    have hz : cnt Fr a n = 0 := by omega
    by_cases e : i = n
    · subst e
      cases hf : Fr (a + i) with
      | false => rfl
      | true => simp [hf] at h
    · exact cnt_none n hz i (by omega)

/-- block b is the map of the free frames, all of first .. F - 1 -/
def FreeD (D : DataW Unit) (first F : Nat) (Fr : Nat → Bool) : Prop :=
  Tidy D ∧ (∀ f : Nat, Maps.has D (.int .i64 (f : Int)) = Fr f) ∧ Maps.size D = cnt Fr first (F - first) ∧ ∀ f, Fr f = true → first ≤ f ∧ f < F
def FreeMap (w : World) (b first F : Nat) (Fr : Nat → Bool) : Prop := ∃ D : DataW Unit, w.ownsMap Tryz.prog InT unitElem b (Maps.size D) D ∧ FreeD D first F Fr

theorem FreeMap.lt {w : World} {b first F : Nat} {Fr : Nat → Bool} (h : FreeMap w b first F Fr) : b < w.heap.size := by
  obtain ⟨D, ⟨es, clock, hb, _⟩, _⟩ := h
  exact lt_of_block hb
theorem owns_chg {P : Program} {k : TypeId} {R : Value → Option (DataW Unit × List MemPlace)} {S : Nat → Prop} {w w' : World} {b n : Nat} {D : DataW Unit} (h : w.ownsMap P k R b n D) (c : Chg S w w') (hn : ¬ S b) : w'.ownsMap P k R b n D := by
  obtain ⟨es, clock, hb, r⟩ := h
  exact ⟨es, clock, (c.block b (lt_of_block hb) hn).trans hb, r⟩
theorem FreeMap.chg {S : Nat → Prop} {w w' : World} {b first F : Nat} {Fr : Nat → Bool} (h : FreeMap w b first F Fr) (c : Chg S w w') (hn : ¬ S b) : FreeMap w' b first F Fr := by
  obtain ⟨D, hD, r⟩ := h
  exact ⟨D, owns_chg hD c hn, r⟩
theorem owns_tight {P : Program} {k : TypeId} {R : Value → Option (DataW Unit × List MemPlace)} {w : World} {b n : Nat} {D : DataW Unit} (h : w.ownsMap P k R b n D) : w.ownsMap P k R b (Maps.size D) D := by
  obtain ⟨es, clock, hb, F, hs, rfl⟩ := h
  refine ⟨es, clock, hb, F, ?_, rfl⟩
  simp [Maps.size, length_sorted]
theorem isKeyInt (x : Int) : WideAt.IsKeyLit (.int .i64 x) := by simp [WideAt.IsKeyLit]
theorem FreeD.size {D : DataW Unit} {first F : Nat} {Fr : Nat → Bool} (h : FreeD D first F Fr) : Maps.size D ≤ F - first := by
  rw [h.2.2.1]; exact cnt_le _ _ _
theorem FreeD.put {D : DataW Unit} {first F f : Nat} {Fr : Nat → Bool} (h : FreeD D first F Fr) (h1 : first ≤ f) (h2 : f < F) (hf : Fr f = false) (d : DataW Unit) : FreeD (D.put (.int .i64 (f : Int)) d) first F (setF Fr f true) := by
  obtain ⟨t, hh, hs, hr⟩ := h
  refine ⟨t.put (isKeyInt _) d, fun g => ?_, ?_, fun g hg => ?_⟩
  · by_cases e : g = f
    · subst e
      rw [has_put_same t.isMap (isKeyInt _)]; unfold setF; rw [if_pos rfl]
    · rw [has_put_other (by intro h; cases h; omega), hh g]; unfold setF; rw [if_neg e]
  · rw [size_put t, hh f, hf, hs]
    have := cnt_setF Fr f true first (F - first) h1 (by omega)
    simp [hf] at this
    simp; omega
  · unfold setF at hg
    split at hg
    · omega
    · exact hr g hg
theorem FreeD.del {D : DataW Unit} {first F f : Nat} {Fr : Nat → Bool} (h : FreeD D first F Fr) (hf : Fr f = true) : FreeD (D.del (.int .i64 (f : Int))) first F (setF Fr f false) := by
  obtain ⟨t, hh, hs, hr⟩ := h
  have hfr := hr f hf
  refine ⟨t.del _, fun g => ?_, ?_, fun g hg => ?_⟩
  · by_cases e : g = f
    · subst e
      rw [has_del_same]; unfold setF; rw [if_pos rfl]
    · rw [has_del_other (by intro h; cases h; omega), hh g]; unfold setF; rw [if_neg e]
  · have h1 := size_del (k := .int .i64 (f : Int)) t
    rw [hh f, hf, hs] at h1
    have := cnt_setF Fr f false first (F - first) hfr.1 (by omega)
    simp [hf] at this h1
    omega
  · unfold setF at hg
    split at hg
    · cases hg
    · exact hr g hg

/-- a pool: its own block q, its map b, its memory p with its bytes o -/
structure PoolA (w : World) (q b p : Nat) (o : Option Nat) (F first : Nat) (Fr : Nat → Bool) (V : Nat → Nat) (t : Nat) : Prop where
  mem : MemA w p o F V t
  blk : Blk w q #[.pointer (some ⟨p, 0, none⟩), .int .i64 first, .map (some b)] PoolT
  fm : FreeMap w b first F Fr
  nq : ∀ k, MemOwn p o k → k ≠ q ∧ k ≠ b
  qb : q ≠ b
  le : first ≤ F
def PoolOwn (q b p : Nat) (o : Option Nat) (k : Nat) : Prop := k = q ∨ k = b ∨ MemOwn p o k
theorem PoolA.chg {S : Nat → Prop} {w w' : World} {q b p F first t : Nat} {o : Option Nat} {Fr : Nat → Bool} {V : Nat → Nat} (h : PoolA w q b p o F first Fr V t) (c : Chg S w w') (hn : ∀ k, PoolOwn q b p o k → ¬ S k) : PoolA w' q b p o F first Fr V t :=
  ⟨h.mem.chg c (fun k a => hn k (.inr (.inr a))), c.blk h.blk (hn _ (.inl rfl)), h.fm.chg c (hn _ (.inr (.inl rfl))), h.nq, h.qb, h.le⟩
theorem PoolA.lt {w : World} {q b p F first t : Nat} {o : Option Nat} {Fr : Nat → Bool} {V : Nat → Nat} (h : PoolA w q b p o F first Fr V t) : ∀ k, PoolOwn q b p o k → k < w.heap.size := by
  rintro k (rfl | rfl | a)
  · exact h.blk.lt
  · exact h.fm.lt
  · exact h.mem.lt k a
/-- what a call on a pool leaves -/
def PoolK (w : World) (q b p F first t : Nat) (o : Option Nat) (Fr : Nat → Bool) (V : Nat → Nat) (v : Value) (e : Ending) (w' : World) : Prop :=
  e = .returned v ∧ ∃ o', PoolA w' q b p o' F first Fr V t ∧ Chg (PoolOwn q b p o) w w' ∧ ∀ k, MemOwn p o' k → MemOwn p o k ∨ w.heap.size ≤ k

theorem pool_mem (w : World) (q b p F first t : Nat) (o : Option Nat) (Fr : Nat → Bool) (V : Nat → Nat) (h : PoolA w q b p o F first Fr V t) :
    Calls Tryz.prog 41 #[.pointer (some ⟨q, 0, none⟩)] w fun e w' => e = .returned (.pointer (some ⟨p, 0, none⟩)) ∧ w = w' := by
  have c0 := h.blk.cellv 0 _ rfl
  clear h
  go_enter Tryz.func41, Tryz.ntmps41
  go_wp2_with fail
  go_ret
  exact ⟨rfl, rfl⟩

set_option maxHeartbeats 800000 in
theorem pool_left (w : World) (q b p F first t : Nat) (o : Option Nat) (Fr : Nat → Bool) (V : Nat → Nat) (h : PoolA w q b p o F first Fr V t) :
    Calls Tryz.prog 16 #[.pointer (some ⟨q, 0, none⟩)] w fun e w' => e = .returned (.int .i64 (cnt Fr first (F - first) : Nat)) ∧ w = w' := by
  have c2 := h.blk.cellv 2 _ rfl
  obtain ⟨D, hown, hD⟩ := h.fm
  rw [← hD.2.2.1]
  clear h hD
  go_enter Tryz.func16, Tryz.ntmps16
  go_wp2_with (at_len; refine wpList_len_own _ rfl _ FmT rfl InT UnT Tryz.underlying95 _ b (Maps.size D) D rfl hown ?_)
  go_ret
  exact ⟨rfl, rfl⟩

set_option maxRecDepth 100000 in
set_option maxHeartbeats 800000 in
theorem pool_taken (w : World) (q b p F first t : Nat) (hF : F ≤ 256) (o : Option Nat) (Fr : Nat → Bool) (V : Nat → Nat) (h : PoolA w q b p o F first Fr V t) (f : Int) :
    Calls Tryz.prog 71 #[.pointer (some ⟨q, 0, none⟩), .int .i64 f] w fun e w' => e = .returned (.bool (decide ((first : Int) ≤ f ∧ f < (F : Int)) && !Fr f.toNat)) ∧ Chg (fun _ => False) w w' := by
  have c0 := h.blk.cellv 0 _ rfl
  have c1 := h.blk.cellv 1 _ rfl
  have c2 := h.blk.cellv 2 _ rfl
  have HF := Lib.hid (phys_frames w p F t o V h.mem)
  obtain ⟨D, hown, hD⟩ := h.fm
  by_cases h1 : f < (first : Int)
  · have d1 : decide (f < (first : Int)) = true := decide_eq_true h1
    rw [show decide ((first : Int) ≤ f ∧ f < (F : Int)) = false from decide_eq_false (by omega)]
    clear h hD hown
    go_enter Tryz.func71, Tryz.ntmps71
    go_wp2_with fail
    go_ret
    exact ⟨by simp, Chg.refl _ _⟩
  · have d1 : decide (f < (first : Int)) = false := decide_eq_false h1
    by_cases h2 : (F : Int) ≤ f
    · have d2 : decide ((F : Int) ≤ f) = true := decide_eq_true h2
      rw [show decide ((first : Int) ≤ f ∧ f < (F : Int)) = false from decide_eq_false (by omega)]
      clear h hD hown
      go_enter Tryz.func71, Tryz.ntmps71
      go_wp2_with fail
      refine HF.out.mono ?_
      rintro e w' ⟨rfl, rfl⟩
      go_wp2_with fail
      go_ret
      exact ⟨by simp, Chg.refl _ _⟩
    · have d2 : decide ((F : Int) ≤ f) = false := decide_eq_false h2
      rw [show decide ((first : Int) ≤ f ∧ f < (F : Int)) = true from decide_eq_true (by omega)]
      obtain ⟨g, rfl⟩ := Int.eq_ofNat_of_zero_le (show 0 ≤ f by omega)
      have hkey : keyOf Tryz.prog InT (.int .i64 (g : Int)) = some (.int .i64 (g : Int)) := keyOf_int_mk Tryz.underlying3 (WalkArith.wf_i64 (by omega))
      have hh := hD.2.1 g
      rw [Int.toNat_natCast, Bool.true_and]
      have HH := Lib.hid hh
      clear h hD hh
      go_enter Tryz.func71, Tryz.ntmps71
      go_wp2_with fail
      refine HF.out.mono ?_
      rintro e w' ⟨rfl, rfl⟩
      go_wp2_with (at_lookup; refine wpList_lookup_own_unit _ rfl _ _ FmT rfl InT UnT lawInt Tryz.underlying95 (zeroUn _) b (Maps.size D) D rfl hown _ _ rfl hkey ?_)
      go_ret
      exact ⟨by rw [HH.out]; rfl, (Chg.refl _ _).alloc _⟩
end Go.Proofs.YtijooajhjcfneaaGreat

namespace Go.Proofs.YtijooajhjcfneaaGreat
open Go.RowKit Go.Maps

theorem grown_chg {w w' : World} {b : Nat} (h : w.grownBy w' (some b)) : Chg (fun k => k = b) w w' := (Chg.refl _ w).grown h (fun k hk => by cases hk; exact .inl rfl)
theorem turned_chg {w w' : World} {b : Nat} (h : w.mapTurned w' b) : Chg (fun k => k = b) w w' := grown_chg h.grown

/-- behind the map's turn: a frame more is free, or less -/
theorem PoolA.turned {w w' : World} {q b p F first t : Nat} {o : Option Nat} {Fr Fr' : Nat → Bool} {V : Nat → Nat} (h : PoolA w q b p o F first Fr V t) (c : Chg (fun k => k = b) w w') (f : FreeMap w' b first F Fr') : PoolA w' q b p o F first Fr' V t :=
  ⟨h.mem.chg c (fun k a => (h.nq k a).2), c.blk h.blk h.qb, f, h.nq, h.qb, h.le⟩
/-- behind what is done to its memory -/
theorem PoolA.worked {w w' : World} {q b p F first t t' : Nat} {o : Option Nat} {Fr : Nat → Bool} {V V' : Nat → Nat} {v : Value} {e : Ending} (h : PoolA w q b p o F first Fr V t) (k : MemK w p F t' o V' v e w') : PoolK w q b p F first t' o Fr V' v e w' := by
  obtain ⟨he, o', hm, hc, hk⟩ := k
  have l1 := h.blk.lt
  have l2 := h.fm.lt
  refine ⟨he, o', ⟨hm, hc.blk h.blk (fun a => (h.nq _ a).1 rfl), h.fm.chg hc (fun a => (h.nq _ a).2 rfl), fun k a => ?_, h.qb, h.le⟩, hc.mono (fun k a => .inr (.inr a)), hk⟩
  rcases hk k a with a | a
  · exact h.nq k a
  · omega
theorem PoolK.after {w w1 w2 : World} {q b p F first t : Nat} {o : Option Nat} {Fr : Nat → Bool} {V : Nat → Nat} {v : Value} {e : Ending} (c : Chg (PoolOwn q b p o) w w1) (k : PoolK w1 q b p F first t o Fr V v e w2) : PoolK w q b p F first t o Fr V v e w2 := by
  obtain ⟨he, o', hp, hc, hk⟩ := k
  exact ⟨he, o', hp, c.trans hc, fun k a => (hk k a).imp id (fun h => Nat.le_trans c.size h)⟩

set_option maxRecDepth 100000 in
set_option maxHeartbeats 800000 in
theorem pool_give_no (w : World) (q b p F first t : Nat) (hF : F ≤ 256) (o : Option Nat) (Fr : Nat → Bool) (V : Nat → Nat) (h : PoolA w q b p o F first Fr V t) (f : Int) (hf : ¬ ((first : Int) ≤ f ∧ f < (F : Int) ∧ Fr f.toNat = false)) :
    Calls Tryz.prog 60 #[.pointer (some ⟨q, 0, none⟩), .int .i64 f] w fun e w' => e = .returned (.int .i64 1) ∧ Chg (fun _ => False) w w' := by
  have HT := pool_taken w q b p F first t hF o Fr V h f
  rw [show (decide ((first : Int) ≤ f ∧ f < (F : Int)) && !Fr f.toNat) = false from by
    cases hfr : Fr f.toNat with
    | true => simp
    | false => rw [decide_eq_false (fun h => hf ⟨h.1, h.2, hfr⟩)]; rfl] at HT
  have HT := Lib.hid HT
  clear h hf
  go_enter Tryz.func60, Tryz.ntmps60
  go_wp2_with fail
  refine HT.out.mono ?_
  rintro e w1 ⟨rfl, c1⟩
  have C1 := Lib.hid c1; clear c1
  go_wp2_with fail
  go_ret
  exact ⟨rfl, C1.out⟩

set_option maxRecDepth 100000 in
set_option maxHeartbeats 800000 in
theorem pool_give_yes (w : World) (q b p F first t : Nat) (hF : F ≤ 256) (o : Option Nat) (Fr : Nat → Bool) (V : Nat → Nat) (h : PoolA w q b p o F first Fr V t) (f : Nat) (h1 : first ≤ f) (h2 : f < F) (hf : Fr f = false) :
    Calls Tryz.prog 60 #[.pointer (some ⟨q, 0, none⟩), .int .i64 f] w (PoolK w q b p F first t o (setF Fr f true) (clV F V f) (.int .i64 0)) := by
  have HT := pool_taken w q b p F first t hF o Fr V h f
  rw [show (decide ((first : Int) ≤ (f : Int) ∧ (f : Int) < (F : Int)) && !Fr (f : Int).toNat) = true from by rw [Int.toNat_natCast, hf, decide_eq_true (by omega)]; rfl] at HT
  have HT := Lib.hid HT
  have hkey : keyOf Tryz.prog InT (.int .i64 (f : Int)) = some (.int .i64 (f : Int)) := keyOf_int_mk Tryz.underlying3 (WalkArith.wf_i64 (by omega))
  have HP := Lib.hid h
  have HC := fun W (H : PoolA W q b p o F first (setF Fr f true) V t) => Lib.hid (m_clear W p F t hF o V H.mem (f : Int))
  rw [show cdF F (f : Int) = 0 from by unfold cdF; rw [if_pos (by omega)]] at HC
  have HC := Lib.hid HC
  have HN := Lib.hid (And.intro h1 (And.intro h2 (And.intro hf hF)))
  clear h hf h1 h2 hF
  go_enter Tryz.func60, Tryz.ntmps60
  go_wp2_with fail
  refine HT.out.mono ?_
  rintro e w1 ⟨rfl, k1⟩
  have hp1 := HP.out.chg k1 (fun _ _ h => h)
  have c2 := hp1.blk.cellv 2 _ rfl
  obtain ⟨D, hown, hD⟩ := hp1.fm
  have hn : Maps.size D < maxLen := by have := hD.size; have := HN.out.2.2.2; unfold maxLen; omega
  have HP1 := Lib.hid hp1; have HD := Lib.hid hD; have K1 := Lib.hid k1
  clear hp1 hD k1
  go_wp2_with (at_mapUpdate; refine wpList_mapUpdate_own _ rfl _ _ _ FmT rfl InT UnT lawInt Tryz.underlying95 (unitElem (H := Unit)) b (Maps.size D) D rfl hown hn _ _ _ rfl rfl hkey _ [] unitElem_mk ?_; intro w2 hown2 hgrow2; have hp2 := Lib.hid (HP1.out.turned (grown_chg hgrow2) ⟨_, owns_tight hown2, HD.out.put HN.out.1 HN.out.2.1 HN.out.2.2.1 _⟩); have c0 := hp2.out.blk.cellv 0 _ rfl; have G2 := Lib.hid hgrow2; clear hgrow2 hown2 hown)
  refine (HC.out w2 hp2.out).out.mono ?_
  rintro e w3 ⟨rfl, hk⟩
  have HK := Lib.hid (hp2.out.worked (v := .int .i64 0) (e := .returned (.int .i64 0)) ⟨rfl, hk⟩); clear hk
  go_wp2_with fail
  go_ret
  exact PoolK.after ((K1.out.mono (fun _ h => h.elim)).trans ((grown_chg G2.out).mono (fun k a => .inr (.inl a)))) HK.out

set_option maxRecDepth 100000 in
set_option maxHeartbeats 800000 in
theorem pool_take_none (w : World) (q b p F first t : Nat) (hF : F ≤ 256) (o : Option Nat) (Fr : Nat → Bool) (V : Nat → Nat) (h : PoolA w q b p o F first Fr V t) (hno : ∀ g, first ≤ g → g < F → Fr g = false) :
    Calls Tryz.prog 12 #[.pointer (some ⟨q, 0, none⟩)] w fun e w' => e = .returned (.tuple #[.int .i64 0, .int .i64 4]) ∧ Chg (fun _ => False) w w' := by
  have c1 := h.blk.cellv 1 _ rfl
  have HFR := fun W (H : PoolA W q b p o F first Fr V t) => Lib.hid (phys_frames W p F t o V H.mem)
  have HFR := Lib.hid HFR
  have HP := Lib.hid h
  have HNO := Lib.hid hno
  have hle := h.le
  clear h hno
  go_enter Tryz.func12, Tryz.ntmps12
  go_wp2_with fail
  go_step3
  go_wp2_with fail
  go_step3
  go_wp2_with fail
  clear c1
  go_loopw [4] (fun i wr => ∃ k : Nat, first ≤ k ∧ k ≤ F ∧ i = .int .i64 k ∧ Hid (Chg (fun _ => False) w wr)) (fun i _ => F - (intOf i).toNat)
  case atStart => exact ⟨first, Nat.le_refl _, hle, rfl, Chg.refl _ _⟩
  case round =>
    obtain ⟨k, hk1, hk2, rfl, HC⟩ := hrel
    have hp := HP.out.chg HC.out (fun _ _ h => h)
    have c0 := hp.blk.cellv 0 _ rfl
    have c2 := hp.blk.cellv 2 _ rfl
    have HPr := Lib.hid hp
    by_cases hlt : k < F
    · have d1 : decide ((k : Int) < (F : Int)) = true := decide_eq_true (by omega)
      obtain ⟨D, hown, hD⟩ := hp.fm
      have hkey : keyOf Tryz.prog InT (.int .i64 (k : Int)) = some (.int .i64 (k : Int)) := keyOf_int_mk Tryz.underlying3 (WalkArith.wf_i64 (by omega))
      have hh : Maps.has D (.int .i64 (k : Int)) = false := by rw [hD.2.1 k]; exact HNO.out k hk1 hlt
      clear hp hD
      go_wp2_with fail
      refine (HFR.out wr HPr.out).out.mono ?_
      rintro e w' ⟨rfl, rfl⟩
      go_wp2_with (at_lookup; refine wpList_lookup_own_unit _ rfl _ _ FmT rfl InT UnT lawInt Tryz.underlying95 (zeroUn _) b (Maps.size D) D rfl hown _ _ rfl hkey ?_)
      go_roundw
      case rel => exact ⟨k + 1, by omega, by omega, by go_num, HC.out.alloc _⟩
      case measure => simp [intOf]; omega
    · obtain rfl : k = F := by omega
      clear hp
      go_wp2_with fail
      refine (HFR.out wr HPr.out).out.mono ?_
      rintro e w' ⟨rfl, rfl⟩
      go_wp2_with fail
      refine (HFR.out wr HPr.out).out.mono ?_
      rintro e w' ⟨rfl, rfl⟩
      go_wp2_with fail
      try rw [Exit.noGoto_ret]
      go_ret2
      exact ⟨rfl, HC.out⟩

set_option maxRecDepth 100000 in
set_option maxHeartbeats 800000 in
theorem pool_take_some (w : World) (q b p F first t : Nat) (hF : F ≤ 256) (o : Option Nat) (Fr : Nat → Bool) (V : Nat → Nat) (h : PoolA w q b p o F first Fr V t) (f : Nat) (hf1 : first ≤ f) (hf2 : f < F) (hfr : Fr f = true) (hno : ∀ g, first ≤ g → g < f → Fr g = false) :
    Calls Tryz.prog 12 #[.pointer (some ⟨q, 0, none⟩)] w (PoolK w q b p F first t o (setF Fr f false) (clV F V f) (.tuple #[.int .i64 f, .int .i64 0])) := by
  have c1 := h.blk.cellv 1 _ rfl
  have HFR := fun W (H : PoolA W q b p o F first Fr V t) => Lib.hid (phys_frames W p F t o V H.mem)
  have HFR := Lib.hid HFR
  have HC := fun W (H : PoolA W q b p o F first (setF Fr f false) V t) => Lib.hid (m_clear W p F t hF o V H.mem (f : Int))
  rw [show cdF F (f : Int) = 0 from by unfold cdF; rw [if_pos (by omega)]] at HC
  have HCL := Lib.hid HC
  have HP := Lib.hid h
  have HNO := Lib.hid hno
  have HFf := Lib.hid hfr
  clear h hno HC hfr
  go_enter Tryz.func12, Tryz.ntmps12
  go_wp2_with fail
  go_step3
  go_wp2_with fail
  go_step3
  go_wp2_with fail
  clear c1
  go_loopw [4] (fun i wr => ∃ k : Nat, first ≤ k ∧ k ≤ f ∧ i = .int .i64 k ∧ Hid (Chg (fun _ => False) w wr)) (fun i _ => F - (intOf i).toNat)
  case atStart => exact ⟨first, Nat.le_refl _, hf1, rfl, Chg.refl _ _⟩
  case round =>
    obtain ⟨k, hk1, hk2, rfl, HC⟩ := hrel
    have hp := HP.out.chg HC.out (fun _ _ h => h)
    have c0 := hp.blk.cellv 0 _ rfl
    have c2 := hp.blk.cellv 2 _ rfl
    have HPr := Lib.hid hp
    obtain ⟨D, hown, hD⟩ := hp.fm
    have hkey : keyOf Tryz.prog InT (.int .i64 (k : Int)) = some (.int .i64 (k : Int)) := keyOf_int_mk Tryz.underlying3 (WalkArith.wf_i64 (by omega))
    have d1 : decide ((k : Int) < (F : Int)) = true := decide_eq_true (by omega)
    have d2 : k < F := by omega
    by_cases hlt : k < f
    · have hh : Maps.has D (.int .i64 (k : Int)) = false := by rw [hD.2.1 k]; exact HNO.out k hk1 hlt
      clear hp hD
      go_wp2_with fail
      refine (HFR.out wr HPr.out).out.mono ?_
      rintro e w' ⟨rfl, rfl⟩
      go_wp2_with (at_lookup; refine wpList_lookup_own_unit _ rfl _ _ FmT rfl InT UnT lawInt Tryz.underlying95 (zeroUn _) b (Maps.size D) D rfl hown _ _ rfl hkey ?_)
      go_roundw
      case rel => exact ⟨k + 1, by omega, by omega, by go_num, HC.out.alloc _⟩
      case measure => simp [intOf]; omega
    · obtain rfl : k = f := by omega
      have hh : Maps.has D (.int .i64 (k : Int)) = true := by rw [hD.2.1 k]; exact HFf.out
      have hpa := HPr.out.chg ((Chg.refl (fun _ => False) wr).alloc (.cells #[] UnT)) (fun _ _ h => h)
      have c0' := hpa.blk.cellv 0 _ rfl
      have c2' := hpa.blk.cellv 2 _ rfl
      have hown' := owns_chg hown ((Chg.refl (fun _ => False) wr).alloc (.cells #[] UnT)) (fun h => h)
      have HPA := Lib.hid hpa
      have d3 : ((k : Int) == (F : Int)) = false := by simp; omega
      have d4 : ¬ k = F := by omega
      have HD := Lib.hid hD
      clear hp hD hpa
      go_wp2_with fail
      refine (HFR.out wr HPr.out).out.mono ?_
      rintro e w' ⟨rfl, rfl⟩
      go_wp2_with (at_lookup; refine wpList_lookup_own_unit _ rfl _ _ FmT rfl InT UnT lawInt Tryz.underlying95 (zeroUn _) b (Maps.size D) D rfl hown _ _ rfl hkey ?_)
      refine (HFR.out _ HPA.out).out.mono ?_
      rintro e w' ⟨rfl, rfl⟩
      go_wp2_with (at_delete; refine wpList_delete_own _ rfl _ _ FmT InT rfl UnT lawInt Tryz.underlying95 (unitElem (H := Unit)) b (Maps.size D) D rfl hown' _ _ rfl hkey ?_; intro w2 hown2 hturn2; have hp2 := Lib.hid (HPA.out.turned (turned_chg hturn2) ⟨_, owns_tight hown2, HD.out.del HFf.out⟩); have c0 := hp2.out.blk.cellv 0 _ rfl; have G2 := Lib.hid (((Chg.refl (fun _ => False) wr).alloc (.cells #[] UnT)).mono (S' := PoolOwn q b p o) (fun _ h => h.elim) |>.trans ((turned_chg hturn2).mono (fun k a => .inr (.inl a)))); clear hturn2 hown2 hown')
      refine (HCL.out w2 hp2.out).out.mono ?_
      rintro e w3 ⟨rfl, hk⟩
      have HK := Lib.hid (hp2.out.worked (v := .tuple #[.int .i64 k, .int .i64 0]) (e := .returned (.tuple #[.int .i64 k, .int .i64 0])) ⟨rfl, hk⟩); clear hk
      go_wp2_with fail
      try rw [Exit.noGoto_ret]
      go_ret2
      exact PoolK.after ((HC.out.mono (fun _ h => h.elim)).trans G2.out) HK.out
end Go.Proofs.YtijooajhjcfneaaGreat

namespace Go.Proofs.YtijooajhjcfneaaGreat
open Go.RowKit Go.Maps

def frAll (first k : Nat) : Nat → Bool := fun f => decide (first ≤ f ∧ f < k)
theorem frAll_step (first k : Nat) (h : first ≤ k) : setF (frAll first k) k true = frAll first (k + 1) := by
  funext g
  unfold setF frAll
  by_cases e : g = k
  · rw [if_pos e, decide_eq_true (by omega)]
  · rw [if_neg e]; congr 1; rw [eq_iff_iff]; omega
theorem freeD_none (first F : Nat) (_h : first ≤ F) : FreeD (.map []) first F (frAll first first) := by
  have hf : ∀ f, frAll first first f = false := fun f => by unfold frAll; exact decide_eq_false (by omega)
  refine ⟨tidy_empty, fun f => by rw [hf f]; rfl, ?_, fun f h => by rw [hf f] at h; cases h⟩
  have : ∀ n, cnt (frAll first first) first n = 0 := fun n => by
    induction n with
    | zero => rfl
    | succ n ih => rw [cnt, ih, hf]; rfl
  rw [this]; rfl

theorem pool_new_no (w : World) (p F t : Nat) (o : Option Nat) (V : Nat → Nat) (h : MemA w p o F V t) (first : Int) (hf : first < 0 ∨ (F : Int) < first) :
    Calls Tryz.prog 9 #[.pointer (some ⟨p, 0, none⟩), .int .i64 first] w fun e w' => e = .returned (.tuple #[.pointer none, .int .i64 1]) ∧ w = w' := by
  have HFR := Lib.hid (phys_frames w p F t o V h)
  clear h
  by_cases h1 : first < 0
  · have d1 : decide (first < (0 : Int)) = true := decide_eq_true h1
    clear hf
    go_enter Tryz.func9, Tryz.ntmps9
    go_wp2_with fail
    go_ret2
    exact ⟨rfl, rfl⟩
  · have d1 : decide (first < (0 : Int)) = false := decide_eq_false h1
    have h2 : (F : Int) < first := by omega
    have d2 : decide ((F : Int) < first) = true := decide_eq_true h2
    clear hf h1
    go_enter Tryz.func9, Tryz.ntmps9
    go_wp2_with fail
    refine HFR.out.mono ?_
    rintro e w' ⟨rfl, rfl⟩
    go_wp2_with fail
    go_ret2
    exact ⟨rfl, rfl⟩
theorem pool_new_nil (w : World) (first : Int) :
    Calls Tryz.prog 9 #[.pointer none, .int .i64 first] w fun e w' => e = .returned (.tuple #[.pointer none, .int .i64 1]) ∧ w = w' := by
  go_enter Tryz.func9, Tryz.ntmps9
  go_wp2_with fail
  go_ret2
  exact ⟨rfl, rfl⟩

def PoolNew (w : World) (p F first t : Nat) (o : Option Nat) (V : Nat → Nat) (e : Ending) (w' : World) : Prop :=
  ∃ q b, e = .returned (.tuple #[.pointer (some ⟨q, 0, none⟩), .int .i64 0]) ∧ PoolA w' q b p o F first (frAll first F) V t ∧ w.heap.size ≤ q ∧ w.heap.size ≤ b ∧ Chg (fun _ => False) w w'

set_option maxRecDepth 100000 in
set_option maxHeartbeats 800000 in
theorem pool_new (w : World) (p F first t : Nat) (hF : F ≤ 256) (o : Option Nat) (V : Nat → Nat) (h : MemA w p o F V t) (hf : first ≤ F) :
    Calls Tryz.prog 9 #[.pointer (some ⟨p, 0, none⟩), .int .i64 first] w (PoolNew w p F first t o V) := by
  have hmm := @run_makeMap Tryz.prog
  have HFR := fun W (H : MemA W p o F V t) => Lib.hid (phys_frames W p F t o V H)
  have HFR := Lib.hid HFR
  have d1 : decide ((first : Int) < 0) = false := decide_eq_false (by omega)
  have d2 : decide ((F : Int) < (first : Int)) = false := decide_eq_false (by omega)
  have d3 : ¬ F < first := by omega
  have HP := Lib.hid h
  have l0 := h.lt
  have HL := Lib.hid l0
  clear h l0
  go_enter Tryz.func9, Tryz.ntmps9
  go_wp2_with fail
  refine (HFR.out w HP.out).out.mono ?_
  rintro e w' ⟨rfl, rfl⟩
  have hw1 := Blk.new (w.alloc (.map #[] 0)) #[.pointer (some ⟨p, 0, none⟩), .int .i64 first, .map (some w.heap.size)] PoolT
  have hs1 : (w.alloc (.map #[] 0)).heap.size = w.heap.size + 1 := by simp
  rw [hs1] at hw1
  have hw2 : Chg (fun _ => False) w ((w.alloc (.map #[] 0)).alloc (.cells #[.pointer (some ⟨p, 0, none⟩), .int .i64 first, .map (some w.heap.size)] PoolT)) := ((Chg.refl _ w).alloc _).alloc _
  have hw3 : FreeMap ((w.alloc (.map #[] 0)).alloc (.cells #[.pointer (some ⟨p, 0, none⟩), .int .i64 first, .map (some w.heap.size)] PoolT)) w.heap.size first F (frAll first first) := by
    refine FreeMap.chg (S := fun _ => False) ⟨.map [], ?_, freeD_none first F hf⟩ ((Chg.refl _ _).alloc _) (fun h => h)
    exact World.ownsMap_made _ _ _ _
  have HW := Lib.hid (show PoolA ((w.alloc (.map #[] 0)).alloc (.cells #[.pointer (some ⟨p, 0, none⟩), .int .i64 first, .map (some w.heap.size)] PoolT)) (w.heap.size + 1) w.heap.size p o F first (frAll first first) V t from
    ⟨HP.out.chg hw2 (fun _ _ h => h), hw1, hw3, fun k a => by have := HL.out k a; omega, by omega, hf⟩)
  have HC := Lib.hid hw2
  clear hs1 hw1 hw2 hw3
  go_wp2_with fail
  go_loopw [7] (fun i wr => ∃ k : Nat, first ≤ k ∧ k ≤ F ∧ i = .int .i64 k ∧ Hid (PoolA wr (w.heap.size + 1) w.heap.size p o F first (frAll first k) V t ∧ Chg (fun _ => False) w wr)) (fun i _ => F - (intOf i).toNat)
  case atStart => exact ⟨first, Nat.le_refl _, hf, rfl, HW.out, HC.out⟩
  case round =>
    obtain ⟨k, hk1, hk2, rfl, HB⟩ := hrel
    obtain ⟨hp, hc⟩ := HB.out
    have c2 := hp.blk.cellv 2 _ rfl
    have HPr := Lib.hid hp; have HCr := Lib.hid hc
    by_cases hlt : k < F
    · obtain ⟨D, hown, hD⟩ := hp.fm
      have hkey : keyOf Tryz.prog InT (.int .i64 (k : Int)) = some (.int .i64 (k : Int)) := keyOf_int_mk Tryz.underlying3 (WalkArith.wf_i64 (by omega))
      have hn : Maps.size D < maxLen := by have := hD.size; unfold maxLen; omega
      have hfk : frAll first k k = false := by unfold frAll; exact decide_eq_false (by omega)
      have HD := Lib.hid (hD.put hk1 hlt hfk (.agg []))
      clear hp hc hD HB hfk
      go_wp2_with fail
      refine (HFR.out wr HPr.out.mem).out.mono ?_
      rintro e w' ⟨rfl, rfl⟩
      go_wp2_with (at_mapUpdate; refine wpList_mapUpdate_own _ rfl _ _ _ FmT rfl InT UnT lawInt Tryz.underlying95 (unitElem (H := Unit)) w.heap.size (Maps.size D) D rfl hown hn _ _ _ rfl rfl hkey _ [] unitElem_mk ?_; intro w2 hown2 hgrow2; have hp2 := Lib.hid (HPr.out.turned (grown_chg hgrow2) ⟨_, owns_tight hown2, HD.out⟩); have G2 := Lib.hid (HCr.out.trans' (grown_chg hgrow2) (fun i h => .inr (Nat.le_of_eq h.symm))); clear hgrow2 hown2 hown)
      go_roundw
      case rel => exact ⟨k + 1, by omega, by omega, by go_num, (frAll_step first k hk1) ▸ hp2.out, G2.out⟩
      case measure => simp [intOf]; omega
    · obtain rfl : k = F := by omega
      clear hp hc HB
      go_wp2_with fail
      refine (HFR.out wr HPr.out.mem).out.mono ?_
      rintro e w' ⟨rfl, rfl⟩
      go_wp2_with fail
      go_ret2
      exact ⟨_, _, rfl, HPr.out, by omega, Nat.le_refl _, HCr.out⟩

/-- a pool that owns none of the blocks of S -/
def Pl (S : Nat → Prop) (w : World) (q p F first : Nat) (Fr : Nat → Bool) (V : Nat → Nat) : Prop :=
  ∃ b o t, t < 18446744073709551616 ∧ PoolA w q b p o F first Fr V t ∧ (∀ k, PoolOwn q b p o k → ¬ S k) ∧ ∀ k, S k → k < w.heap.size
def StepF (S : Nat → Prop) (w : World) (q p F first : Nat) (Fr : Nat → Bool) (V : Nat → Nat) (v : Value) (e : Ending) (w' : World) : Prop := e = .returned v ∧ Pl S w' q p F first Fr V ∧ Chg (fun k => ¬ S k) w w'
theorem Pl.step {S : Nat → Prop} {w w' : World} {q b p F first t : Nat} {o : Option Nat} {Fr : Nat → Bool} {V : Nat → Nat} {v : Value} {e : Ending} (ht : t < 18446744073709551616) (hB : ∀ k, PoolOwn q b p o k → ¬ S k) (hS : ∀ k, S k → k < w.heap.size)
    (k : PoolK w q b p F first t o Fr V v e w') : StepF S w q p F first Fr V v e w' := by
  obtain ⟨he, o', hp, hc, hk⟩ := k
  refine ⟨he, ⟨b, o', t, ht, hp, ?_, fun k h => Nat.lt_of_lt_of_le (hS k h) hc.size⟩, hc.mono hB⟩
  rintro k (a | a | a)
  · exact hB k (.inl a)
  · exact hB k (.inr (.inl a))
  · rcases hk k a with a | a
    · exact hB k (.inr (.inr a))
    · intro h; have := hS k h; omega
theorem Pl.nothing {S : Nat → Prop} {w w' : World} {q p F first : Nat} {Fr : Nat → Bool} {V : Nat → Nat} (h : Pl S w q p F first Fr V) (c : Chg (fun _ => False) w w') : Pl S w' q p F first Fr V := by
  obtain ⟨b, o, t, ht, hp, hB, hS⟩ := h
  exact ⟨b, o, t, ht, hp.chg c (fun _ _ h => h), hB, fun k h => Nat.lt_of_lt_of_le (hS k h) c.size⟩
theorem Pl.small {S : Nat → Prop} {w : World} {q p F first : Nat} {Fr : Nat → Bool} {V : Nat → Nat} (h : Pl S w q p F first Fr V) : ∀ i, V i < 256 := by
  obtain ⟨b, o, t, ht, hp, hB, hS⟩ := h
  exact hp.mem.small
theorem Pl.le {S : Nat → Prop} {w : World} {q p F first : Nat} {Fr : Nat → Bool} {V : Nat → Nat} (h : Pl S w q p F first Fr V) : first ≤ F := by
  obtain ⟨b, o, t, ht, hp, hB, hS⟩ := h
  exact hp.le
theorem Pl.fr {S : Nat → Prop} {w : World} {q p F first : Nat} {Fr : Nat → Bool} {V : Nat → Nat} (h : Pl S w q p F first Fr V) : ∀ f, Fr f = true → first ≤ f ∧ f < F := by
  obtain ⟨b, o, t, ht, hp, hB, hS⟩ := h
  obtain ⟨D, _, hD⟩ := hp.fm
  exact hD.2.2.2
theorem f_give_no {S : Nat → Prop} {w : World} {q p F first : Nat} {Fr : Nat → Bool} {V : Nat → Nat} (h : Pl S w q p F first Fr V) (hF : F ≤ 256) (f : Int) (hf : ¬ ((first : Int) ≤ f ∧ f < (F : Int) ∧ Fr f.toNat = false)) :
    Calls Tryz.prog 60 #[.pointer (some ⟨q, 0, none⟩), .int .i64 f] w (StepF S w q p F first Fr V (.int .i64 1)) := by
  have h' := h
  obtain ⟨b, o, t, ht, hp, hB, hS⟩ := h
  exact (pool_give_no w q b p F first t hF o Fr V hp f hf).mono fun _ _ ⟨h1, h2⟩ => ⟨h1, h'.nothing h2, h2.mono (fun _ h => h.elim)⟩
theorem f_give_yes {S : Nat → Prop} {w : World} {q p F first : Nat} {Fr : Nat → Bool} {V : Nat → Nat} (h : Pl S w q p F first Fr V) (hF : F ≤ 256) (f : Nat) (h1 : first ≤ f) (h2 : f < F) (hf : Fr f = false) :
    Calls Tryz.prog 60 #[.pointer (some ⟨q, 0, none⟩), .int .i64 f] w (StepF S w q p F first (setF Fr f true) (clV F V f) (.int .i64 0)) := by
  obtain ⟨b, o, t, ht, hp, hB, hS⟩ := h
  exact (pool_give_yes w q b p F first t hF o Fr V hp f h1 h2 hf).mono fun _ _ k => Pl.step ht hB hS k
theorem f_take_none {S : Nat → Prop} {w : World} {q p F first : Nat} {Fr : Nat → Bool} {V : Nat → Nat} (h : Pl S w q p F first Fr V) (hF : F ≤ 256) (hno : ∀ g, first ≤ g → g < F → Fr g = false) :
    Calls Tryz.prog 12 #[.pointer (some ⟨q, 0, none⟩)] w (StepF S w q p F first Fr V (.tuple #[.int .i64 0, .int .i64 4])) := by
  have h' := h
  obtain ⟨b, o, t, ht, hp, hB, hS⟩ := h
  exact (pool_take_none w q b p F first t hF o Fr V hp hno).mono fun _ _ ⟨h1, h2⟩ => ⟨h1, h'.nothing h2, h2.mono (fun _ h => h.elim)⟩
theorem f_take_some {S : Nat → Prop} {w : World} {q p F first : Nat} {Fr : Nat → Bool} {V : Nat → Nat} (h : Pl S w q p F first Fr V) (hF : F ≤ 256) (f : Nat) (hf1 : first ≤ f) (hf2 : f < F) (hfr : Fr f = true) (hno : ∀ g, first ≤ g → g < f → Fr g = false) :
    Calls Tryz.prog 12 #[.pointer (some ⟨q, 0, none⟩)] w (StepF S w q p F first (setF Fr f false) (clV F V f) (.tuple #[.int .i64 f, .int .i64 0])) := by
  obtain ⟨b, o, t, ht, hp, hB, hS⟩ := h
  exact (pool_take_some w q b p F first t hF o Fr V hp f hf1 hf2 hfr hno).mono fun _ _ k => Pl.step ht hB hS k
theorem f_taken {S : Nat → Prop} {w : World} {q p F first : Nat} {Fr : Nat → Bool} {V : Nat → Nat} (h : Pl S w q p F first Fr V) (hF : F ≤ 256) (f : Int) :
    Calls Tryz.prog 71 #[.pointer (some ⟨q, 0, none⟩), .int .i64 f] w (StepF S w q p F first Fr V (.bool (decide ((first : Int) ≤ f ∧ f < (F : Int)) && !Fr f.toNat))) := by
  have h' := h
  obtain ⟨b, o, t, ht, hp, hB, hS⟩ := h
  exact (pool_taken w q b p F first t hF o Fr V hp f).mono fun _ _ ⟨h1, h2⟩ => ⟨h1, h'.nothing h2, h2.mono (fun _ h => h.elim)⟩
theorem f_left {S : Nat → Prop} {w : World} {q p F first : Nat} {Fr : Nat → Bool} {V : Nat → Nat} (h : Pl S w q p F first Fr V) :
    Calls Tryz.prog 16 #[.pointer (some ⟨q, 0, none⟩)] w fun e w' => e = .returned (.int .i64 (cnt Fr first (F - first) : Nat)) ∧ w = w' := by
  obtain ⟨b, o, t, ht, hp, hB, hS⟩ := h
  exact pool_left w q b p F first t o Fr V hp
theorem f_mem {S : Nat → Prop} {w : World} {q p F first : Nat} {Fr : Nat → Bool} {V : Nat → Nat} (h : Pl S w q p F first Fr V) :
    Calls Tryz.prog 41 #[.pointer (some ⟨q, 0, none⟩)] w fun e w' => e = .returned (.pointer (some ⟨p, 0, none⟩)) ∧ w = w' := by
  obtain ⟨b, o, t, ht, hp, hB, hS⟩ := h
  exact pool_mem w q b p F first t o Fr V hp
theorem f_put {S : Nat → Prop} {w : World} {q p F first : Nat} {Fr : Nat → Bool} {V : Nat → Nat} (h : Pl S w q p F first Fr V) (hF : F ≤ 256) (at_ : Nat) (hw : at_ < 18446744073709551616) (s : ByteArray) (hs : s.size ≤ maxLen) :
    Calls Tryz.prog 44 #[.pointer (some ⟨p, 0, none⟩), .int .u64 at_, .string s] w (StepF S w q p F first Fr (ptV F V at_ s) (.int .i64 (cdP F at_ s))) := by
  obtain ⟨b, o, t, ht, hp, hB, hS⟩ := h
  exact (m_put w p F t hF o V hp.mem at_ hw s hs).mono fun _ _ k => Pl.step ht hB hS (hp.worked k)
theorem f_get {S : Nat → Prop} {w : World} {q p F first : Nat} {Fr : Nat → Bool} {V : Nat → Nat} (h : Pl S w q p F first Fr V) (hF : F ≤ 256) (at_ : Nat) (hw : at_ < 18446744073709551616) (n : Int) (hn : n ≤ 9223372036854775807) (x : Int) (hx : x = (at_ : Int)) :
    Calls Tryz.prog 15 #[.pointer (some ⟨p, 0, none⟩), .int .u64 x, .int .i64 n] w (StepF S w q p F first Fr V (.tuple #[.string (gtS F V at_ n), .int .i64 (cdG F at_ n)])) := by
  obtain ⟨b, o, t, ht, hp, hB, hS⟩ := h
  subst hx
  exact (m_get w p F t hF o V hp.mem at_ hw n hn).mono fun _ _ k => Pl.step ht hB hS (hp.worked k)
/-- New, of a memory that is new since B -/
def NewF (B : Nat) (w : World) (p F first : Nat) (V : Nat → Nat) (e : Ending) (w' : World) : Prop :=
  ∃ q, e = .returned (.tuple #[.pointer (some ⟨q, 0, none⟩), .int .i64 0]) ∧ Pl (fun k => k < B) w' q p F first (frAll first F) V ∧ Below B w w'
theorem f_new {B : Nat} {w : World} {p F : Nat} {V : Nat → Nat} (h : MT B w p F V) (hF : F ≤ 256) (first : Nat) (hf : first ≤ F) :
    Calls Tryz.prog 9 #[.pointer (some ⟨p, 0, none⟩), .int .i64 first] w (NewF B w p F first V) := by
  obtain ⟨t, ht, o, hm, hB⟩ := h
  have hp : B ≤ w.heap.size := Nat.le_of_lt (Nat.lt_of_le_of_lt (hB p (.inl rfl)) (hm.lt p (.inl rfl)))
  refine (pool_new w p F first t hF o V hm hf).mono fun e w' ⟨q, b, he, hP, hq, hb, hc⟩ => ⟨q, he, ⟨b, o, t, ht, hP, ?_, fun k (h : k < B) => by have := hc.size; omega⟩, hc.below hp (fun _ h => h.elim)⟩
  rintro k (rfl | rfl | a) (h : _ < B)
  · omega
  · omega
  · have := hB k a; omega
theorem f_new_no {B : Nat} {w : World} {p F : Nat} {V : Nat → Nat} (h : MT B w p F V) (first : Int) (hf : first < 0 ∨ (F : Int) < first) :
    Calls Tryz.prog 9 #[.pointer (some ⟨p, 0, none⟩), .int .i64 first] w fun e w' => e = .returned (.tuple #[.pointer none, .int .i64 1]) ∧ w = w' := by
  obtain ⟨t, ht, o, hm, hB⟩ := h
  exact pool_new_no w p F t o V hm first hf
end Go.Proofs.YtijooajhjcfneaaGreat

namespace Go.Proofs.YtijooajhjcfneaaGreat
open Go.RowKit

/-- a pool's memory alone: its own blocks are kept -/
theorem Pl.Y {S : Nat → Prop} {w : World} {q p F first : Nat} {Fr : Nat → Bool} {V : Nat → Nat} (h : Pl S w q p F first Fr V) :
    ∃ S' : Nat → Prop, (∀ k, S k → S' k) ∧ PY S' w p F V ∧ ∀ w' V', PY S' w' p F V' → Chg (fun k => ¬ S' k) w w' → Pl S w' q p F first Fr V' := by
  obtain ⟨b, o, t, ht, hp, hB, hS⟩ := h
  have l1 := hp.blk.lt
  have l2 := hp.fm.lt
  refine ⟨fun k => S k ∨ k = q ∨ k = b, fun k h => .inl h, ⟨o, t, ht, hp.mem, fun k a c => ?_, fun k a => ?_⟩, fun w' V' hy c => ?_⟩
  · rcases c with c | c
    · exact hB k (.inr (.inr a)) c
    · have := hp.nq k a; omega
  · rcases a with a | rfl | rfl
    · exact hS k a
    · exact l1
    · exact l2
  · obtain ⟨o', t', ht', hm', hB', hS'⟩ := hy
    refine ⟨b, o', t', ht', ⟨hm', c.blk hp.blk (fun a => a (.inr (.inl rfl))), hp.fm.chg c (fun a => a (.inr (.inr rfl))), fun k a => ?_, hp.qb, hp.le⟩, ?_, fun k a => hS' k (.inl a)⟩
    · have := hB' k a
      exact ⟨fun e => this (.inr (.inl e)), fun e => this (.inr (.inr e))⟩
    · rintro k (rfl | rfl | a)
      · exact hB _ (.inl rfl)
      · exact hB _ (.inr (.inl rfl))
      · exact fun e => hB' k a (.inl e)
theorem Pl.mem {S : Nat → Prop} {w : World} {q p F first : Nat} {Fr : Nat → Bool} {V V' : Nat → Nat} {P : Program} {f : FuncId} {args : Array Value} {v : Value} (h : Pl S w q p F first Fr V) (c : ∀ S', PY S' w p F V → Calls P f args w (StepY S' w p F V' v)) : Calls P f args w (StepF S w q p F first Fr V' v) := by
  obtain ⟨S', hs, hy, back⟩ := h.Y
  exact (c S' hy).mono fun _ w' ⟨h1, h2, h3⟩ => ⟨h1, back w' V' h2 h3, h3.mono fun k a b => a (hs k b)⟩
theorem f_load8 {S : Nat → Prop} {w : World} {q p F first : Nat} {Fr : Nat → Bool} {V : Nat → Nat} (h : Pl S w q p F first Fr V) (hF : F ≤ 256) (a : Nat) (ha : a + 8 ≤ F * 256) (x : Int) (hx : x = (a : Int)) :
    Calls Tryz.prog 57 #[.pointer (some ⟨p, 0, none⟩), .int .u64 x, .int .i64 8] w (StepF S w q p F first Fr V (.tuple #[.int .u64 (entV V a : Nat), .int .i64 0])) := h.mem fun _ h => py_load8 h hF a ha x hx
theorem f_store8 {S : Nat → Prop} {w : World} {q p F first : Nat} {Fr : Nat → Bool} {V : Nat → Nat} (h : Pl S w q p F first Fr V) (hF : F ≤ 256) (a : Nat) (ha : a + 8 ≤ F * 256) (v : Nat) (hv : v < 18446744073709551616) (x y : Int) (hx : x = (a : Int)) (hy : y = (v : Int)) :
    Calls Tryz.prog 83 #[.pointer (some ⟨p, 0, none⟩), .int .u64 x, .int .i64 8, .int .u64 y] w (StepF S w q p F first Fr (stV F V a 8 v) (.int .i64 0)) := by
  subst hy
  have e : cdL F a 8 = 0 := by
    unfold cdL
    rw [if_pos (by decide), if_pos (by show a + 8 ≤ F * 256; exact ha)]
  have k := fun S' (h' : PY S' w p F V) => py_store h' hF a (by omega) 8 v hv x hx
  rw [e] at k
  exact h.mem k
theorem f_wk {S : Nat → Prop} {w : World} {q p F first : Nat} {Fr : Nat → Bool} {V : Nat → Nat} (h : Pl S w q p F first Fr V) (hF : F ≤ 256) (root : Int) (at_ : Nat) (acc : Int) :
    Calls Tryz.prog 40 #[.pointer (some ⟨p, 0, none⟩), .int .i64 root, .int .u64 at_, .int .i64 acc] w (StepF S w q p F first Fr V (wkR V F root at_ acc)) := h.mem fun _ h => wk_all _ w p F V h hF root at_ acc
theorem f_lf {S : Nat → Prop} {w : World} {q p F first : Nat} {Fr : Nat → Bool} {V : Nat → Nat} (h : Pl S w q p F first Fr V) (hF : F ≤ 256) (root : Int) (at_ : Nat) :
    Calls Tryz.prog 56 #[.pointer (some ⟨p, 0, none⟩), .int .i64 root, .int .u64 at_] w (StepF S w q p F first Fr V (lfR V F root at_)) := h.mem fun _ h => lf_all _ w p F V h hF root at_
theorem Pl.drew {S : Nat → Prop} {w : World} {q p F first : Nat} {Fr : Nat → Bool} {V : Nat → Nat} (h : Pl S w q p F first Fr V) : Pl S w.drew q p F first Fr V := h.nothing (Chg.refl _ _).drew
theorem Pl.lt {S : Nat → Prop} {w : World} {q p F first : Nat} {Fr : Nat → Bool} {V : Nat → Nat} (h : Pl S w q p F first Fr V) : ∀ k, S k → k < w.heap.size := by
  obtain ⟨b, o, t, ht, hp, hB, hS⟩ := h
  exact hS
theorem Pl.weak {S S' : Nat → Prop} {w : World} {q p F first : Nat} {Fr : Nat → Bool} {V : Nat → Nat} (h : Pl S w q p F first Fr V) (hs : ∀ k, S' k → S k) : Pl S' w q p F first Fr V := by
  obtain ⟨b, o, t, ht, hp, hB, hS⟩ := h
  exact ⟨b, o, t, ht, hp, fun k a c => hB k a (hs k c), fun k a => hS k (hs k a)⟩
/-- a block that the pool does not own turns, and more are made: all these may be kept from now on -/
theorem Pl.beside {S S' T : Nat → Prop} {w w' : World} {q p F first : Nat} {Fr : Nat → Bool} {V : Nat → Nat} (h : Pl S w q p F first Fr V) (c : Chg T w w') (hT : ∀ k, T k → S k) (hS' : ∀ k, S' k → S k ∨ w.heap.size ≤ k) (hlt : ∀ k, S' k → k < w'.heap.size) : Pl S' w' q p F first Fr V := by
  obtain ⟨b, o, t, ht, hp, hB, hS⟩ := h
  refine ⟨b, o, t, ht, hp.chg c (fun k a d => hB k a (hT k d)), fun k a d => ?_, hlt⟩
  rcases hS' k d with e | e
  · exact hB k a e
  · have := hp.lt k a; omega
theorem StepF.again {S : Nat → Prop} {w w1 w2 : World} {q p F first : Nat} {Fr : Nat → Bool} {V : Nat → Nat} {v : Value} {e : Ending} (c : Chg (fun k => ¬ S k) w w1) (h : StepF S w1 q p F first Fr V v e w2) : StepF S w q p F first Fr V v e w2 := ⟨h.1, h.2.1, c.trans h.2.2⟩

/-- a row of words that was made since B -/
def UL (B : Nat) (w : World) (sv : Value) (xs : List Nat) : Prop := w.ownsRow B 26 1 sv xs.length (xs.map fun x => Value.int .u64 (x : Nat))
theorem Tryz.infoU64 : (Tryz.prog.info? 26).map (fun i => (i.zero, i.size, i.bytes)) = some (some (.int .u64 0), 1, 8) := by kernel_rfl
theorem ownsRow_chg {S : Nat → Prop} {w w' : World} {B e sz : Nat} {v : Value} {n : Nat} {xs : List Value} (h : w.ownsRow B e sz v n xs) (c : Chg S w w') (hn : ∀ k, v.ownBlock = some k → ¬ S k) : w'.ownsRow B e sz v n xs := by
  obtain ⟨hl, h | ⟨g, cap, cur, rfl, hb, hg, h1⟩⟩ := h
  · exact ⟨hl, .inl h⟩
  · exact ⟨hl, .inr ⟨g, cap, cur, rfl, hb, (c.block g (lt_of_block hg) (hn g rfl)).trans hg, h1⟩⟩
theorem ownsRow_lt {w : World} {B e sz : Nat} {v : Value} {n : Nat} {xs : List Value} (h : w.ownsRow B e sz v n xs) : ∀ k, v.ownBlock = some k → B ≤ k ∧ k < w.heap.size := fun k hk => by
  obtain ⟨hl, h | ⟨g, cap, cur, rfl, hb, hg, h1⟩⟩ := h
  · rw [h.1] at hk; cases hk
  · cases hk; exact ⟨hb, lt_of_block hg⟩
/-- a slice of some words, and where they stand -/
theorem UL.form {B : Nat} {w : World} {sv : Value} {xs : List Nat} (h : UL B w sv xs) (h0 : 0 < xs.length) : ∃ g cap, sv = .slice (some ⟨g, 0, none⟩) xs.length cap ∧ ∀ i (hi : i < xs.length), w.cell? ⟨g, i, none⟩ = some (.int .u64 (xs[i] : Nat)) := by
  obtain ⟨hl, h | ⟨g, cap, cur, rfl, hb, hg, h1, h2, h3, h4⟩⟩ := h
  · omega
  · refine ⟨g, cap, rfl, fun i hi => ?_⟩
    have hB : Blk w g cur 26 := hg
    rw [hB.cell i]
    have e : (cur.toList.take (xs.length * 1))[i]? = (xs.map fun x => Value.int .u64 (x : Nat))[i]? := by rw [h4]
    rw [List.getElem?_take_of_lt (by omega), List.getElem?_map, List.getElem?_eq_getElem hi] at e
    simpa using e
theorem ul_one (B : Nat) (w : World) (hB : B ≤ w.heap.size) (x : Nat) : UL B (w.alloc (.cells #[.int .u64 (x : Nat)] 26)) (.slice (some ⟨w.heap.size, 0, none⟩) 1 1) [x] :=
  ⟨rfl, .inr ⟨w.heap.size, 1, _, rfl, hB, heap_alloc_new w _, Nat.le_refl _, by unfold maxLen; simp, rfl, rfl⟩⟩
/-- a row and the pool, that share nothing: behind a word more -/
theorem row_next {S : Nat → Prop} {w wr w1 : World} {q p F first n : Nat} {Fr : Nat → Bool} {V : Nat → Nat} {sv v' : Value} {B T e sz : Nat} {c : Array Value} {xs ys : List Value} {m : Nat} (hB : w.heap.size ≤ B) (hU : wr.ownsRow B e sz sv n xs) (hP : Pl (fun k => S k ∨ sv.ownBlock = some k) wr q p F first Fr V) (hC : Chg (fun k => ¬ S k) w wr)
    (h1 : w1.ownsRow B e sz v' m ys) (hg : (wr.alloc (.cells c T)).grownBy w1 sv.ownBlock) (hat : v'.ownBlock = sv.ownBlock ∨ v'.ownBlock = some (wr.alloc (.cells c T)).heap.size) :
    Pl (fun k => S k ∨ v'.ownBlock = some k) w1 q p F first Fr V ∧ Chg (fun k => ¬ S k) w w1 ∧ Chg (fun k => sv.ownBlock = some k) wr w1 := by
  have hc : Chg (fun k => sv.ownBlock = some k) wr w1 := ((Chg.refl _ wr).alloc _).grown hg (fun k hk => .inl hk)
  have hz : (wr.alloc (.cells c T)).heap.size = wr.heap.size + 1 := by simp
  refine ⟨hP.beside hc (fun k hk => .inr hk) (fun k hk => ?_) (fun k hk => ?_), hC.trans' hc (fun k hk => .inr (Nat.le_trans hB (ownsRow_lt hU k hk).1)), hc⟩
  · rcases hk with hk | hk
    · exact .inl (.inl hk)
    · rcases hat with e | e
      · exact .inl (.inr (e ▸ hk))
      · rw [e, hz] at hk
        cases hk
        exact .inr (by omega)
  · rcases hk with hk | hk
    · exact Nat.lt_of_lt_of_le (hP.lt k (.inl hk)) hc.size
    · exact (ownsRow_lt h1 k hk).2

theorem sp_at (w : World) (t k : Nat) (ht : t < 256) (hk : k < 32) (x y : Int) (hx : x = (t : Int)) (hy : y = (k : Int)) :
    Calls Tryz.prog 80 #[.int .u64 x, .int .i64 y] w fun e w' => e = .returned (.int .u64 (t * 256 + 8 * k : Nat)) ∧ w = w' := by
  subst hx hy
  have q1 : IntKind.u64.wrap ((t : Int) * 256) = (t : Int) * 256 := by rw [u64_wrap]; omega
  have q2 : wrap64 (8 * (k : Int)) = 8 * (k : Int) := by unfold wrap64; omega
  have q3 : IntKind.u64.wrap (8 * (k : Int)) = 8 * (k : Int) := by rw [u64_wrap]; omega
  have q4 : IntKind.u64.wrap ((t : Int) * 256 + 8 * (k : Int)) = (t : Int) * 256 + 8 * (k : Int) := by rw [u64_wrap]; omega
  have q5 : ((t * 256 + 8 * k : Nat) : Int) = (t : Int) * 256 + 8 * (k : Int) := by omega
  rw [q5]
  clear ht hk q5
  go_enter Tryz.func80, Tryz.ntmps80
  go_wp2_with fail
  go_ret
  exact ⟨rfl, rfl⟩
theorem sp_taken_nil (w : World) (root : Int) :
    Calls Tryz.prog 39 #[.pointer none, .int .i64 root] w fun e w' => e = .returned (.bool false) ∧ w = w' := by
  go_enter Tryz.func39, Tryz.ntmps39
  go_wp2_with fail
  go_ret
  exact ⟨rfl, rfl⟩
theorem sp_taken {S : Nat → Prop} {w : World} {q p F first : Nat} {Fr : Nat → Bool} {V : Nat → Nat} (h : Pl S w q p F first Fr V) (hF : F ≤ 256) (root : Int) :
    Calls Tryz.prog 39 #[.pointer (some ⟨q, 0, none⟩), .int .i64 root] w (StepF S w q p F first Fr V (.bool (decide ((first : Int) ≤ root ∧ root < (F : Int)) && !Fr root.toNat))) := by
  have HT := f_taken h hF root
  generalize (decide ((first : Int) ≤ root ∧ root < (F : Int)) && !Fr root.toNat) = b at *
  have HT := Lib.hid HT
  clear h
  go_enter Tryz.func39, Tryz.ntmps39
  go_wp2_with fail
  refine HT.out.mono ?_
  rintro e w1 ⟨rfl, m1, c1⟩
  have M1 := Lib.hid (And.intro m1 c1); clear m1 c1
  go_wp2_with fail
  go_ret
  exact ⟨rfl, M1.out⟩
end Go.Proofs.YtijooajhjcfneaaGreat

namespace Go.Proofs.YtijooajhjcfneaaGreat
open Go.RowKit

theorem byt_strOfNums (xs : List Nat) (hx : ∀ x ∈ xs, x < 256) (i : Nat) (hi : i < xs.length) : byt (strOfNums (xs.map (fun x : Nat => (x : Int)))) i = xs[i] := by
  unfold byt
  rw [strOfNums_data]
  have h := hx xs[i] (List.getElem_mem _)
  simp [List.getD, hi]
  omega
def wByN (v : Nat) : Nat → List Nat
  | 0 => []
  | n + 1 => v % 256 :: wByN (v / 256) n
theorem wBy_map (n : Nat) : ∀ v, wBy v n = (wByN v n).map (fun x : Nat => (x : Int)) := by
  induction n with
  | zero => intro v; rfl
  | succ n ih => intro v; simp [wBy, wByN, ih]
theorem wByN_len (n : Nat) : ∀ v, (wByN v n).length = n := by
  induction n with
  | zero => intro v; rfl
  | succ n ih => intro v; simp [wByN, ih]
theorem wByN_get (n : Nat) : ∀ v i (_h : i < n), (wByN v n)[i]? = some (v / 256 ^ i % 256) := by
  induction n with
  | zero => intro v i h; omega
  | succ n ih =>
    intro v i h
    rcases i with _ | i
    · simp [wByN]
    · rw [wByN, List.getElem?_cons_succ, ih (v / 256) i (by omega), Nat.div_div_eq_div_mul, Nat.pow_succ, Nat.mul_comm 256]
theorem byt_wBy (v n i : Nat) (hi : i < n) : byt (strOfNums (wBy v n)) i = v / 256 ^ i % 256 := by
  have hg := wByN_get n v i hi
  have hl := wByN_len n v
  have h2 : (wByN v n)[i]'(by omega) = v / 256 ^ i % 256 := by
    rw [List.getElem?_eq_getElem (by omega)] at hg
    simpa using hg
  rw [wBy_map, byt_strOfNums _ (fun x hx => ?_) i (by omega), h2]
  obtain ⟨j, hj, rfl⟩ := List.getElem_of_mem hx
  have h3 := wByN_get n v j (by omega)
  rw [List.getElem?_eq_getElem hj] at h3
  simp at h3
  rw [h3]
  exact Nat.mod_lt _ (by omega)
theorem wOfN_wBy (v n : Nat) : ∀ k, k ≤ n → wOfN (strOfNums (wBy v n)) k = v % 256 ^ k := by
  intro k
  induction k with
  | zero => intro _; simp [wOfN, Nat.mod_one]
  | succ k ih =>
    intro hk
    rw [wOfN, ih (by omega), byt_wBy v n k (by omega), Nat.pow_succ, Nat.mod_mul, Nat.mul_comm (256 ^ k) (v / 256 ^ k % 256)]
theorem wOf_wBytes (v : Nat) (hv : v < 18446744073709551616) (n : Int) : wOf (wBytes v n) = wLow v (8 * (wCount n : Int)) := by
  unfold wOf
  rw [wBytes_size]
  have h8 : wCount n ≤ 8 := by unfold wCount; omega
  rw [Nat.min_eq_left h8, wBytes, wOfN_wBy v _ _ (Nat.le_refl _)]
  generalize wCount n = k at *
  unfold wLow
  by_cases h0 : k = 0
  · subst h0; simp [Nat.mod_one]
  · rw [if_neg (by omega)]
    by_cases h1 : k = 8
    · subst h1
      rw [if_pos (by omega)]
      exact Nat.mod_eq_of_lt (by omega)
    · rw [if_neg (by omega), show (8 * (k : Int)).toNat = 8 * k from by omega, Nat.pow_mul]

theorem memStr_byt (s : ByteArray) : memStr (byt s) 0 s.size = s := by
  obtain ⟨⟨l⟩⟩ := s
  unfold memStr
  apply ByteArray.ext
  apply Array.ext'
  rw [strOfNums_data]
  apply List.ext_getElem
  · simp [ByteArray.size]
  · intro i h1 h2
    simp at h1 h2
    simp [byt, List.getD, h2]

theorem memStr_putV (V : Nat → Nat) (at_ : Nat) (s : ByteArray) : memStr (putV V at_ s.size (byt s)) at_ s.size = s := by
  refine Eq.trans (memStr_congr fun i hi => ?_) (memStr_byt s)
  unfold putV
  rw [if_pos (by omega)]
  congr 1
  omega
theorem ld_st (V : Nat → Nat) (F at_ v : Nat) (n : Nat) (hv : v < 18446744073709551616) (hc : cdL F at_ (n : Int) = 0) (h8 : n ≤ 8) :
    ldV F (stV F V at_ (n : Int) v) at_ (n : Int) = wLow v (8 * (n : Int)) := by
  have hs : (wBytes v (n : Int)).size = n := by rw [wBytes_size]; unfold wCount; omega
  unfold ldV stV
  rw [if_pos hc, if_pos hc, Int.toNat_natCast]
  have e : memStr (putV V at_ n (byt (wBytes v (n : Int)))) at_ n = wBytes v (n : Int) := by
    have := memStr_putV V at_ (wBytes v (n : Int))
    rw [hs] at this
    exact this
  rw [e, wOf_wBytes v hv, show wCount (n : Int) = n from by unfold wCount; omega]
theorem ld_beside (V : Nat → Nat) (F at_ v b : Nat) (n : Int) (h : b < at_ ∨ at_ + n.toNat ≤ b) : ldV F (stV F V at_ n v) b 1 = ldV F V b 1 := by
  unfold ldV stV
  split
  · split
    · congr 1
      apply memStr_congr
      intro i hi
      unfold putV
      rw [if_neg (by have : (1 : Int).toNat = 1 := rfl; omega)]
    · rfl
  · rfl
end Go.Proofs.YtijooajhjcfneaaGreat
