/-
  Package lock: Ask, Has, Pass, Waiting, Let, New, each by a contract; and each at nil.
-/
import Derived.Test.YthlhdgbpfdaodaaLock4
namespace Go.Proofs.Ythlhdgbpfdaodaa
open Go.RowKit Go.Maps

theorem lk_has (w : World) (b wide next passed t : Nat) (bk : Nat → Bool) (fp : Nat → Prop) (h : LkAt w b wide next passed bk fp) (hb : next ≤ 4611686018427387904) (hq : passed + wide ≤ 4611686018427387904) :
    Calls Try.prog 13 #[.pointer (some ⟨b, 0, none⟩), .int .u64 t] w (HasPost w b wide next passed bk fp (lkHas wide next passed bk t)) := by
  by_cases h1 : t < next
  · by_cases h2 : t < passed + wide
    · have e : lkHas wide next passed bk t = !bk t := by simp [lkHas, h1, h2]
      rw [e]
      exact lk_has_yes w b wide next passed t bk fp h h1 h2 hb hq
    · have e : lkHas wide next passed bk t = false := by simp [lkHas, h2]
      rw [e]
      exact lk_has_no2 w b wide next passed t bk fp h h1 (by omega) hb
  · have e : lkHas wide next passed bk t = false := by simp [lkHas, h1]
    rw [e]
    exact lk_has_no1 w b wide next passed t bk fp h (by omega)

theorem lk_has_nil (w : World) (t : Int) :
    Calls Try.prog 13 #[.pointer none, .int .u64 t] w fun e w' => e = .returned (.bool false) ∧ ∃ n, w' = w.drewN n := by
  go_enter Try.func13, Try.ntmps13
  go_wp2_with fail
  go_quiet (fail)
  go_wp2
  go_ret
  exact ⟨rfl, _, rfl⟩

def bkSet (bk : Nat → Bool) (t : Nat) : Nat → Bool := fun k => if k = t then true else bk k

/-- a step after which the lock holds other numbers -/
def LkStep (w : World) (b wide : Nat) (fp : Nat → Prop) (next passed : Nat) (bk : Nat → Bool) (w' : World) : Prop :=
  ∃ fp', LkAt w' b wide next passed bk fp' ∧ Chg fp w w' ∧ ∀ k, fp' k → fp k ∨ w.heap.size ≤ k

def PassPost (w : World) (b wide : Nat) (fp : Nat → Prop) (r : Int) (next passed : Nat) (bk : Nat → Bool) (e : Ending) (w' : World) : Prop :=
  e = .returned (.int .i64 r) ∧ LkStep w b wide fp next passed bk w'

theorem lk_pass_no (w : World) (b wide next passed t : Nat) (bk : Nat → Bool) (fp : Nat → Prop) (h : LkAt w b wide next passed bk fp) (hb : next ≤ 4611686018427387904) (hq : passed + wide ≤ 4611686018427387904)
    (hr : lkHas wide next passed bk t = false) :
    Calls Try.prog 11 #[.pointer (some ⟨b, 0, none⟩), .int .u64 t] w (PassPost w b wide fp 1 next passed bk) := by
  have hc := lk_has w b wide next passed t bk fp h hb hq
  rw [hr] at hc
  have HC := Lib.hid hc; clear hc hr h hb hq
  go_enter Try.func11, Try.ntmps11
  go_wp2_with fail
  refine HC.out.mono ?_
  rintro e w1 ⟨rfl, hS⟩
  go_wp2_with fail
  go_ret
  exact ⟨rfl, hS⟩

theorem lk_pass_nil (w : World) (t : Int) :
    Calls Try.prog 11 #[.pointer none, .int .u64 t] w fun e w' => e = .returned (.int .i64 1) ∧ ∃ n, w' = w.drewN n := by
  go_enter Try.func11, Try.ntmps11
  go_wp2_with fail
  refine (lk_has_nil _ t).mono ?_
  rintro e w1 ⟨rfl, n, rfl⟩
  go_wp2_with fail
  go_ret
  exact ⟨rfl, _, rfl⟩

theorem bkSet_at (D : DataW Unit) (bk : Nat → Bool) (t : Nat) (hD : IsMap D) (e : ∀ k : Nat, D.atKey (.int .u64 k) (.lit (.bool false)) = .lit (.bool (bk k))) :
    ∀ k : Nat, (D.put (.int .u64 t) (.lit (.bool true))).atKey (.int .u64 k) (.lit (.bool false)) = .lit (.bool (bkSet bk t k)) := by
  intro k
  by_cases hk : k = t
  · subst hk
    rw [atKey_put_same hD (by simp [WideAt.IsKeyLit])]
    simp [bkSet]
  · rw [atKey_put_other (by intro h; injection h; omega), e k]
    simp [bkSet, hk]

set_option maxHeartbeats 400000 in
theorem lk_pass_yes (w : World) (b wide next passed t : Nat) (bk : Nat → Bool) (fp : Nat → Prop) (h : LkAt w b wide next passed bk fp) (hb : next ≤ 4611686018427387904) (hq : passed + wide ≤ 4611686018427387904)
    (hw : (Lit.int .u64 (t : Int)).wf = true) (hr : lkHas wide next passed bk t = true) :
    Calls Try.prog 11 #[.pointer (some ⟨b, 0, none⟩), .int .u64 t] w (PassPost w b wide fp 0 next (passed + 1) (bkSet bk t)) := by
  have hc := lk_has w b wide next passed t bk fp h hb hq
  rw [hr] at hc
  have hfb := Lib.hid h.own
  have HC := Lib.hid hc; clear hc hr h hb
  have hp : passed ≤ 4611686018427387904 := by omega
  have hpm : passed < maxLen := by unfold maxLen; omega
  clear hq
  go_enter Try.func11, Try.ntmps11
  go_wp2_with fail
  refine HC.out.mono ?_
  rintro e w1 ⟨rfl, fp1, hL1, hC1, hN1⟩
  have HL1 := Lib.hid hL1; have HC1 := Lib.hid hC1; have HN1 := Lib.hid hN1; clear hL1 hC1 hN1
  go_wp2_with fail
  refine (lk_handed w1 b wide next passed bk fp1 HL1.out).mono ?_
  rintro e w2 ⟨bm, rfl, hO, hC2, hN2⟩
  obtain ⟨B2, hne, D, hown, hD⟩ := hO
  have HB2 := Lib.hid B2; have HC2 := Lib.hid hC2; have HN2 := Lib.hid hN2; have HD := Lib.hid hD; clear B2 hC2 hN2 hD
  go_wp2_with (at_mapUpdate; refine wpList_mapUpdate_own _ rfl _ _ _ LkM rfl LkK LkE lk_keyed Try.underlying59 _ bm passed D rfl hown hpm _ _ _ rfl rfl (keyOf_int_mk Try.underlying33 hw) (.lit (.bool true)) [] (plainElem_bool Try.underlying4 true) ?_; intro w3 hown3 hgrow3)
  have C3 : Chg (fun k => k = bm) w2 w3 := (Chg.refl _ _).grown hgrow3 (fun k hk => .inl (by injection hk with hk; exact hk.symm))
  have B3 := C3.blk HB2.out (fun h => hne h.symm)
  have c2 := B3.cellv 2 _ rfl
  have f2 := B3.free 2
  refine (at_add1 ⟨b, 2, none⟩ passed hp w3 c2 f2).mono ?_
  rintro e w4 ⟨rfl, rfl⟩
  have HM := Lib.hid hown.isMap; have HC3 := Lib.hid C3; have HB3 := Lib.hid B3; clear C3 B3 hown
  go_wp2_with fail
  go_ret
  have M : LkMap (w3.setCell ⟨b, 2, none⟩ (.int .u64 ((passed : Int) + 1))) bm (passed + 1) (bkSet bk t) :=
    LkMap.chg (w := w3) (S := fun k => k = b) ⟨_, hown3, bkSet_at D bk t HM.out HD.out⟩ ((Chg.refl (fun k => k = b) _).setCell _ _ (.inl rfl)) (fun h => hne h)
  have B := HB3.out.set 2 (.int .u64 ((passed : Int) + 1))
  have N1 := HN1.out
  have s1 := HC1.out.size
  have hbm : fp bm ∨ w.heap.size ≤ bm := by
    rcases HN2.out with h' | h'
    · exact N1 bm h'
    · right; omega
  have CA : Chg fp w w2 := HC1.out.trans' HC2.out N1
  have CB : Chg fp w w3 := CA.trans' HC3.out (by rintro i rfl; exact hbm)
  refine ⟨rfl, fun k => k = b ∨ k = bm, .inr ⟨bm, ⟨by simpa using B, hne, M⟩, rfl⟩, CB.setCell _ _ (.inl hfb.out), ?_⟩
  rintro k (rfl | rfl)
  · exact .inl hfb.out
  · exact hbm

theorem lk_ask (w : World) (b wide next passed : Nat) (bk : Nat → Bool) (fp : Nat → Prop) (h : LkAt w b wide next passed bk fp) (hb : next < 4611686018427387904) :
    Calls Try.prog 9 #[.pointer (some ⟨b, 0, none⟩)] w fun e w' => e = .returned (.tuple #[.int .u64 next, .int .i64 0]) ∧ LkStep w b wide fp (next + 1) passed bk w' := by
  have c1 := h.c1
  have f1 := h.fr 1
  have hd : decide ((4611686018427387904 : Int) ≤ (next : Int)) = false := by simp; omega
  have H := Lib.hid h; clear h
  have L : LkStep w b wide fp (next + 1) passed bk (w.setCell ⟨b, 1, none⟩ (.int .u64 ((next : Int) + 1))) := by
    have ho := H.out.own
    refine ⟨fp, ?_, (Chg.refl fp w).setCell _ _ (.inl ho), fun k hk => .inl hk⟩
    rcases H.out with ⟨hB, h2, h3, rfl⟩ | ⟨bm, hO, rfl⟩
    · exact .inl ⟨by have := hB.set 1 (.int .u64 ((next : Int) + 1)); simpa [LkNew] using this, h2, h3, rfl⟩
    · exact .inr ⟨bm, ⟨by have := hO.1.set 1 (.int .u64 ((next : Int) + 1)); simpa using this, hO.2.1, hO.2.2.chg ((Chg.refl (fun k => k = b) w).setCell _ _ (.inl rfl)) (fun h => hO.2.1 h)⟩, rfl⟩
  have HL := Lib.hid L; clear L
  have hn : next ≤ 4611686018427387904 := by omega
  go_enter Try.func9, Try.ntmps9
  go_wp2_with fail
  refine (at_load ⟨b, 1, none⟩ next _ c1).mono ?_
  rintro e w1 ⟨rfl, rfl⟩
  go_wp2_with fail
  refine (at_add1 ⟨b, 1, none⟩ next hn w c1 f1).mono ?_
  rintro e w1 ⟨rfl, rfl⟩
  go_wp2_with fail
  go_ret2
  exact ⟨by simp, HL.out⟩

theorem lk_ask_nil (w : World) :
    Calls Try.prog 9 #[.pointer none] w fun e w' => e = .returned (.tuple #[.int .u64 0, .int .i64 1]) ∧ w = w' := by
  go_enter Try.func9, Try.ntmps9
  go_wp2_with fail
  go_ret2
  exact ⟨rfl, rfl⟩

theorem lk_waiting (w : World) (b wide next passed : Nat) (bk : Nat → Bool) (fp : Nat → Prop) (h : LkAt w b wide next passed bk fp) (hp : passed ≤ next) (hb : next ≤ 4611686018427387904) :
    Calls Try.prog 15 #[.pointer (some ⟨b, 0, none⟩)] w fun e w' => e = .returned (.int .u64 ((next : Int) - passed)) ∧ ∃ n, w' = w.drewN n := by
  have c1 := h.c1
  have c2 := h.c2
  have hs : IntKind.u64.wrap ((next : Int) - (passed : Int)) = (next : Int) - (passed : Int) := by
    unfold IntKind.wrap
    simp [IntKind.bits, IntKind.signed]
    omega
  clear hb h hp
  go_enter Try.func15, Try.ntmps15
  go_wp2_with fail
  go_quiet (first | (go_at_call_of 19 (⟨b, 1, none⟩ : Addr); exact quiet_left (at_load ⟨b, 1, none⟩ next _ c1)) | (go_at_call_of 19 (⟨b, 2, none⟩ : Addr); exact quiet_left (at_load ⟨b, 2, none⟩ passed _ c2)))
  go_wp2
  go_ret
  exact ⟨rfl, _, rfl⟩

theorem lk_waiting_nil (w : World) :
    Calls Try.prog 15 #[.pointer none] w fun e w' => e = .returned (.int .u64 0) ∧ w = w' := by
  go_enter Try.func15, Try.ntmps15
  go_wp2_with fail
  go_ret
  exact ⟨rfl, rfl⟩

theorem lk_let_nil (w : World) :
    Calls Try.prog 17 #[.pointer none] w fun e w' => e = .returned (.int .u64 0) ∧ w = w' := by
  go_enter Try.func17, Try.ntmps17
  go_wp2_with fail
  go_ret
  exact ⟨rfl, rfl⟩

set_option maxHeartbeats 400000 in
theorem lk_let (w : World) (b wide next passed : Nat) (bk : Nat → Bool) (fp : Nat → Prop) (h : LkAt w b wide next passed bk fp) (hq : passed + wide ≤ 4611686018427387904) :
    Calls Try.prog 17 #[.pointer (some ⟨b, 0, none⟩)] w fun e w' => e = .returned (.int .u64 (min (next : Int) ((passed : Int) + wide))) ∧ w' = w.drew := by
  have c0 := h.c0
  have c1 := h.c1
  have c2 := h.c2
  have hs : IntKind.u64.wrap ((passed : Int) + (wide : Int)) = (passed : Int) + (wide : Int) := by
    unfold IntKind.wrap
    simp [IntKind.bits, IntKind.signed]
    omega
  clear h hq
  go_enter Try.func17, Try.ntmps17
  go_wp2_with fail
  go_region_held3 (fun w' => w'.cell? ⟨b, 0, none⟩ = some (.int .u64 wide)) (first | (simp [*]; done) | assumption)
    (first
      | (go_at_call_of 19 (⟨b, 1, none⟩ : Addr); refine (at_load ⟨b, 1, none⟩ next _ ?_).mono ?_; exact c1; rintro e w' ⟨rfl, rfl⟩)
      | (go_at_call_of 19 (⟨b, 2, none⟩ : Addr); refine (at_load ⟨b, 2, none⟩ passed _ ?_).mono ?_; exact c2; rintro e w' ⟨rfl, rfl⟩))
  go_wp2
  all_goals
    go_ret
    exact ⟨ret_int (by omega), rfl⟩
end Go.Proofs.Ythlhdgbpfdaodaa
