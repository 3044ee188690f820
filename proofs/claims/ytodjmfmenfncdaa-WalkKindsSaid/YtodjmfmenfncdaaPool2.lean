/-
  The pool of frames: Give, Take, New by their contracts.
-/
import Derived.Test.YtodjmfmenfncdaaPool1
import Derived.WalkMore
namespace Go.Proofs.Ytodjmfmenfncdaa
open Go.RowKit Go.Maps

theorem grown_chg {w w' : World} {b : Nat} (h : w.grownBy w' (some b)) : Chg (fun k => k = b) w w' := (Chg.refl _ w).grown h (fun k hk => by cases hk; exact .inl rfl)
theorem turned_chg {w w' : World} {b : Nat} (h : w.mapTurned w' b) : Chg (fun k => k = b) w w' := grown_chg h.grown

/-- behind the map's turn: a frame more is free, or less -/
theorem PoolA.turned {w w' : World} {q b p F first t : Nat} {o : Option Nat} {Fr Fr' : Nat → Bool} {V : Nat → Nat} (h : PoolA w q b p o F first Fr V t) (c : Chg (fun k => k = b) w w') (f : FreeMap w' b first F Fr') : PoolA w' q b p o F first Fr' V t :=
  ⟨h.mem.chg c (fun k a => (h.nq k a).2), c.blk h.blk h.qb, f, h.nq, h.qb, h.le⟩
/-- behind what is done to its memory -/
theorem PoolA.worked {w w' : World} {q b p F first t t' : Nat} {o : Option Nat} {Fr : Nat → Bool} {V V' : Nat → Nat} {v : Value} {e : Ending} (h : PoolA w q b p o F first Fr V t) (k : MemK w p F t' o V' v e w') : PoolK w q b p F first t' o Fr V' v e w' := by
  obtain ⟨he, o', hm, hc, hk⟩ := k
  have l1 := h.blk.lt
  have l2 := h.fm.lt
  refine ⟨he, o', ⟨hm, hc.blk h.blk (fun a => (h.nq _ a).1 rfl), h.fm.chg hc (fun a => (h.nq _ a).2 rfl), fun k a => ?_, h.qb, h.le⟩, hc.mono (fun k a => .inr (.inr a)), hk⟩
  rcases hk k a with a | a
  · exact h.nq k a
  · omega
theorem PoolK.after {w w1 w2 : World} {q b p F first t : Nat} {o : Option Nat} {Fr : Nat → Bool} {V : Nat → Nat} {v : Value} {e : Ending} (c : Chg (PoolOwn q b p o) w w1) (k : PoolK w1 q b p F first t o Fr V v e w2) : PoolK w q b p F first t o Fr V v e w2 := by
  obtain ⟨he, o', hp, hc, hk⟩ := k
  exact ⟨he, o', hp, c.trans hc, fun k a => (hk k a).imp id (fun h => Nat.le_trans c.size h)⟩

set_option maxRecDepth 100000 in
set_option maxHeartbeats 800000 in
theorem pool_give_no (w : World) (q b p F first t : Nat) (hF : F ≤ 256) (o : Option Nat) (Fr : Nat → Bool) (V : Nat → Nat) (h : PoolA w q b p o F first Fr V t) (f : Int) (hf : ¬ ((first : Int) ≤ f ∧ f < (F : Int) ∧ Fr f.toNat = false)) :
    Calls Try.prog 58 #[.pointer (some ⟨q, 0, none⟩), .int .i64 f] w fun e w' => e = .returned (.int .i64 1) ∧ Chg (fun _ => False) w w' := by
  have HT := pool_taken w q b p F first t hF o Fr V h f
  rw [show (decide ((first : Int) ≤ f ∧ f < (F : Int)) && !Fr f.toNat) = false from by
    cases hfr : Fr f.toNat with
    | true => simp
    | false => rw [decide_eq_false (fun h => hf ⟨h.1, h.2, hfr⟩)]; rfl] at HT
  have HT := Lib.hid HT
  clear h hf
  go_enter Try.func58, Try.ntmps58
  go_wp2_with fail
  refine HT.out.mono ?_
  rintro e w1 ⟨rfl, c1⟩
  have C1 := Lib.hid c1; clear c1
  go_wp2_with fail
  go_ret
  exact ⟨rfl, C1.out⟩

set_option maxRecDepth 100000 in
set_option maxHeartbeats 800000 in
theorem pool_give_yes (w : World) (q b p F first t : Nat) (hF : F ≤ 256) (o : Option Nat) (Fr : Nat → Bool) (V : Nat → Nat) (h : PoolA w q b p o F first Fr V t) (f : Nat) (h1 : first ≤ f) (h2 : f < F) (hf : Fr f = false) :
    Calls Try.prog 58 #[.pointer (some ⟨q, 0, none⟩), .int .i64 f] w (PoolK w q b p F first t o (setF Fr f true) (clV F V f) (.int .i64 0)) := by
  have HT := pool_taken w q b p F first t hF o Fr V h f
  rw [show (decide ((first : Int) ≤ (f : Int) ∧ (f : Int) < (F : Int)) && !Fr (f : Int).toNat) = true from by rw [Int.toNat_natCast, hf, decide_eq_true (by omega)]; rfl] at HT
  have HT := Lib.hid HT
  have hkey : keyOf Try.prog InT (.int .i64 (f : Int)) = some (.int .i64 (f : Int)) := keyOf_int_mk Try.underlying3 (WalkArith.wf_i64 (by omega))
  have HP := Lib.hid h
  have HC := fun W (H : PoolA W q b p o F first (setF Fr f true) V t) => Lib.hid (m_clear W p F t hF o V H.mem (f : Int))
  rw [show cdF F (f : Int) = 0 from by unfold cdF; rw [if_pos (by omega)]] at HC
  have HC := Lib.hid HC
  have HN := Lib.hid (And.intro h1 (And.intro h2 (And.intro hf hF)))
  clear h hf h1 h2 hF
  go_enter Try.func58, Try.ntmps58
  go_wp2_with fail
  refine HT.out.mono ?_
  rintro e w1 ⟨rfl, k1⟩
  have hp1 := HP.out.chg k1 (fun _ _ h => h)
  have c2 := hp1.blk.cellv 2 _ rfl
  obtain ⟨D, hown, hD⟩ := hp1.fm
  have hn : Maps.size D < maxLen := by have := hD.size; have := HN.out.2.2.2; unfold maxLen; omega
  have HP1 := Lib.hid hp1; have HD := Lib.hid hD; have K1 := Lib.hid k1
  clear hp1 hD k1
  go_wp2_with (at_mapUpdate; refine wpList_mapUpdate_own _ rfl _ _ _ FmT rfl InT UnT lawInt Try.underlying90 (unitElem (H := Unit)) b (Maps.size D) D rfl hown hn _ _ _ rfl rfl hkey _ [] unitElem_mk ?_; intro w2 hown2 hgrow2; have hp2 := Lib.hid (HP1.out.turned (grown_chg hgrow2) ⟨_, owns_tight hown2, HD.out.put HN.out.1 HN.out.2.1 HN.out.2.2.1 _⟩); have c0 := hp2.out.blk.cellv 0 _ rfl; have G2 := Lib.hid hgrow2; clear hgrow2 hown2 hown)
  refine (HC.out w2 hp2.out).out.mono ?_
  rintro e w3 ⟨rfl, hk⟩
  have HK := Lib.hid (hp2.out.worked (v := .int .i64 0) (e := .returned (.int .i64 0)) ⟨rfl, hk⟩); clear hk
  go_wp2_with fail
  go_ret
  exact PoolK.after ((K1.out.mono (fun _ h => h.elim)).trans ((grown_chg G2.out).mono (fun k a => .inr (.inl a)))) HK.out

set_option maxRecDepth 100000 in
set_option maxHeartbeats 800000 in
theorem pool_take_none (w : World) (q b p F first t : Nat) (hF : F ≤ 256) (o : Option Nat) (Fr : Nat → Bool) (V : Nat → Nat) (h : PoolA w q b p o F first Fr V t) (hno : ∀ g, first ≤ g → g < F → Fr g = false) :
    Calls Try.prog 47 #[.pointer (some ⟨q, 0, none⟩)] w fun e w' => e = .returned (.tuple #[.int .i64 0, .int .i64 4]) ∧ Chg (fun _ => False) w w' := by
  have c1 := h.blk.cellv 1 _ rfl
  have HFR := fun W (H : PoolA W q b p o F first Fr V t) => Lib.hid (phys_frames W p F t o V H.mem)
  have HFR := Lib.hid HFR
  have HP := Lib.hid h
  have HNO := Lib.hid hno
  have hle := h.le
  clear h hno
  go_enter Try.func47, Try.ntmps47
  go_wp2_with fail
  go_step3
  go_wp2_with fail
  go_step3
  go_wp2_with fail
  clear c1
  go_loopw [4] (fun i wr => ∃ k : Nat, first ≤ k ∧ k ≤ F ∧ i = .int .i64 k ∧ Hid (Chg (fun _ => False) w wr)) (fun i _ => F - (intOf i).toNat)
  case atStart => exact ⟨first, Nat.le_refl _, hle, rfl, Chg.refl _ _⟩
  case round =>
    obtain ⟨k, hk1, hk2, rfl, HC⟩ := hrel
    have hp := HP.out.chg HC.out (fun _ _ h => h)
    have c0 := hp.blk.cellv 0 _ rfl
    have c2 := hp.blk.cellv 2 _ rfl
    have HPr := Lib.hid hp
    by_cases hlt : k < F
    · have d1 : decide ((k : Int) < (F : Int)) = true := decide_eq_true (by omega)
      obtain ⟨D, hown, hD⟩ := hp.fm
      have hkey : keyOf Try.prog InT (.int .i64 (k : Int)) = some (.int .i64 (k : Int)) := keyOf_int_mk Try.underlying3 (WalkArith.wf_i64 (by omega))
      have hh : Maps.has D (.int .i64 (k : Int)) = false := by rw [hD.2.1 k]; exact HNO.out k hk1 hlt
      clear hp hD
      go_wp2_with fail
      refine (HFR.out wr HPr.out).out.mono ?_
      rintro e w' ⟨rfl, rfl⟩
      go_wp2_with (at_lookup; refine wpList_lookup_own_unit _ rfl _ _ FmT rfl InT UnT lawInt Try.underlying90 (zeroUn _) b (Maps.size D) D rfl hown _ _ rfl hkey ?_)
      go_roundw
      case rel => exact ⟨k + 1, by omega, by omega, by go_num, HC.out.alloc _⟩
      case measure => simp [intOf]; omega
    · obtain rfl : k = F := by omega
      clear hp
      go_wp2_with fail
      refine (HFR.out wr HPr.out).out.mono ?_
      rintro e w' ⟨rfl, rfl⟩
      go_wp2_with fail
      refine (HFR.out wr HPr.out).out.mono ?_
      rintro e w' ⟨rfl, rfl⟩
      go_wp2_with fail
      try rw [Exit.noGoto_ret]
      go_ret2
      exact ⟨rfl, HC.out⟩

set_option maxRecDepth 100000 in
set_option maxHeartbeats 800000 in
theorem pool_take_some (w : World) (q b p F first t : Nat) (hF : F ≤ 256) (o : Option Nat) (Fr : Nat → Bool) (V : Nat → Nat) (h : PoolA w q b p o F first Fr V t) (f : Nat) (hf1 : first ≤ f) (hf2 : f < F) (hfr : Fr f = true) (hno : ∀ g, first ≤ g → g < f → Fr g = false) :
    Calls Try.prog 47 #[.pointer (some ⟨q, 0, none⟩)] w (PoolK w q b p F first t o (setF Fr f false) (clV F V f) (.tuple #[.int .i64 f, .int .i64 0])) := by
  have c1 := h.blk.cellv 1 _ rfl
  have HFR := fun W (H : PoolA W q b p o F first Fr V t) => Lib.hid (phys_frames W p F t o V H.mem)
  have HFR := Lib.hid HFR
  have HC := fun W (H : PoolA W q b p o F first (setF Fr f false) V t) => Lib.hid (m_clear W p F t hF o V H.mem (f : Int))
  rw [show cdF F (f : Int) = 0 from by unfold cdF; rw [if_pos (by omega)]] at HC
  have HCL := Lib.hid HC
  have HP := Lib.hid h
  have HNO := Lib.hid hno
  have HFf := Lib.hid hfr
  clear h hno HC hfr
  go_enter Try.func47, Try.ntmps47
  go_wp2_with fail
  go_step3
  go_wp2_with fail
  go_step3
  go_wp2_with fail
  clear c1
  go_loopw [4] (fun i wr => ∃ k : Nat, first ≤ k ∧ k ≤ f ∧ i = .int .i64 k ∧ Hid (Chg (fun _ => False) w wr)) (fun i _ => F - (intOf i).toNat)
  case atStart => exact ⟨first, Nat.le_refl _, hf1, rfl, Chg.refl _ _⟩
  case round =>
    obtain ⟨k, hk1, hk2, rfl, HC⟩ := hrel
    have hp := HP.out.chg HC.out (fun _ _ h => h)
    have c0 := hp.blk.cellv 0 _ rfl
    have c2 := hp.blk.cellv 2 _ rfl
    have HPr := Lib.hid hp
    obtain ⟨D, hown, hD⟩ := hp.fm
    have hkey : keyOf Try.prog InT (.int .i64 (k : Int)) = some (.int .i64 (k : Int)) := keyOf_int_mk Try.underlying3 (WalkArith.wf_i64 (by omega))
    have d1 : decide ((k : Int) < (F : Int)) = true := decide_eq_true (by omega)
    have d2 : k < F := by omega
    by_cases hlt : k < f
    · have hh : Maps.has D (.int .i64 (k : Int)) = false := by rw [hD.2.1 k]; exact HNO.out k hk1 hlt
      clear hp hD
      go_wp2_with fail
      refine (HFR.out wr HPr.out).out.mono ?_
      rintro e w' ⟨rfl, rfl⟩
      go_wp2_with (at_lookup; refine wpList_lookup_own_unit _ rfl _ _ FmT rfl InT UnT lawInt Try.underlying90 (zeroUn _) b (Maps.size D) D rfl hown _ _ rfl hkey ?_)
      go_roundw
      case rel => exact ⟨k + 1, by omega, by omega, by go_num, HC.out.alloc _⟩
      case measure => simp [intOf]; omega
    · obtain rfl : k = f := by omega
      have hh : Maps.has D (.int .i64 (k : Int)) = true := by rw [hD.2.1 k]; exact HFf.out
      have hpa := HPr.out.chg ((Chg.refl (fun _ => False) wr).alloc (.cells #[] UnT)) (fun _ _ h => h)
      have c0' := hpa.blk.cellv 0 _ rfl
      have c2' := hpa.blk.cellv 2 _ rfl
      have hown' := owns_chg hown ((Chg.refl (fun _ => False) wr).alloc (.cells #[] UnT)) (fun h => h)
      have HPA := Lib.hid hpa
      have d3 : ((k : Int) == (F : Int)) = false := by simp; omega
      have d4 : ¬ k = F := by omega
      have HD := Lib.hid hD
      clear hp hD hpa
      go_wp2_with fail
      refine (HFR.out wr HPr.out).out.mono ?_
      rintro e w' ⟨rfl, rfl⟩
      go_wp2_with (at_lookup; refine wpList_lookup_own_unit _ rfl _ _ FmT rfl InT UnT lawInt Try.underlying90 (zeroUn _) b (Maps.size D) D rfl hown _ _ rfl hkey ?_)
      refine (HFR.out _ HPA.out).out.mono ?_
      rintro e w' ⟨rfl, rfl⟩
      go_wp2_with (at_delete; refine wpList_delete_own _ rfl _ _ FmT InT rfl UnT lawInt Try.underlying90 (unitElem (H := Unit)) b (Maps.size D) D rfl hown' _ _ rfl hkey ?_; intro w2 hown2 hturn2; have hp2 := Lib.hid (HPA.out.turned (turned_chg hturn2) ⟨_, owns_tight hown2, HD.out.del HFf.out⟩); have c0 := hp2.out.blk.cellv 0 _ rfl; have G2 := Lib.hid (((Chg.refl (fun _ => False) wr).alloc (.cells #[] UnT)).mono (S' := PoolOwn q b p o) (fun _ h => h.elim) |>.trans ((turned_chg hturn2).mono (fun k a => .inr (.inl a)))); clear hturn2 hown2 hown')
      refine (HCL.out w2 hp2.out).out.mono ?_
      rintro e w3 ⟨rfl, hk⟩
      have HK := Lib.hid (hp2.out.worked (v := .tuple #[.int .i64 k, .int .i64 0]) (e := .returned (.tuple #[.int .i64 k, .int .i64 0])) ⟨rfl, hk⟩); clear hk
      go_wp2_with fail
      try rw [Exit.noGoto_ret]
      go_ret2
      exact PoolK.after ((HC.out.mono (fun _ h => h.elim)).trans G2.out) HK.out
end Go.Proofs.Ytodjmfmenfncdaa
