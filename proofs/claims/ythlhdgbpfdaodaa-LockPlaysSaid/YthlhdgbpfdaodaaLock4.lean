/-
  Package lock: Has, for whatever lock that was made by New.
-/
import Derived.Test.YthlhdgbpfdaodaaLock3
namespace Go.Proofs.Ythlhdgbpfdaodaa
open Go.RowKit Go.Maps

/-- a lock in memory; fp: its blocks -/
def LkAt (w : World) (b wide next passed : Nat) (bk : Nat → Bool) (fp : Nat → Prop) : Prop :=
  (LkNew w b wide next ∧ passed = 0 ∧ bk = (fun _ => false) ∧ fp = (fun k => k = b)) ∨ ∃ bm, LkOld w b wide next passed bk bm ∧ fp = (fun k => k = b ∨ k = bm)

theorem LkAt.lt {w : World} {b wide next passed : Nat} {bk : Nat → Bool} {fp : Nat → Prop} (h : LkAt w b wide next passed bk fp) : b < w.heap.size := by
  rcases h with ⟨h, _⟩ | ⟨bm, h, _⟩
  · exact h.lt
  · exact h.1.lt
theorem LkAt.own {w : World} {b wide next passed : Nat} {bk : Nat → Bool} {fp : Nat → Prop} (h : LkAt w b wide next passed bk fp) : fp b := by
  rcases h with ⟨_, _, _, rfl⟩ | ⟨bm, _, rfl⟩
  · rfl
  · exact .inl rfl
theorem LkAt.fps {w : World} {b wide next passed : Nat} {bk : Nat → Bool} {fp : Nat → Prop} (h : LkAt w b wide next passed bk fp) : ∀ k, fp k → k < w.heap.size := by
  intro k hk
  rcases h with ⟨h, _, _, rfl⟩ | ⟨bm, h, rfl⟩
  · have := h.lt; have hk' : k = b := hk; omega
  · rcases hk with rfl | rfl
    · exact h.1.lt
    · exact h.2.2.lt
theorem LkAt.chg {S : Nat → Prop} {w w' : World} {b wide next passed : Nat} {bk : Nat → Bool} {fp : Nat → Prop} (h : LkAt w b wide next passed bk fp) (c : Chg S w w') (hn : ∀ k, fp k → ¬ S k) : LkAt w' b wide next passed bk fp := by
  rcases h with ⟨h, h2, h3, rfl⟩ | ⟨bm, h, rfl⟩
  · exact .inl ⟨c.blk h (hn b rfl), h2, h3, rfl⟩
  · exact .inr ⟨bm, h.chg c (hn b (.inl rfl)) (hn bm (.inr rfl)), rfl⟩
theorem LkAt.c0 {w : World} {b wide next passed : Nat} {bk : Nat → Bool} {fp : Nat → Prop} (h : LkAt w b wide next passed bk fp) : w.cell? ⟨b, 0, none⟩ = some (.int .u64 wide) := by
  rcases h with ⟨h, h2, h3, rfl⟩ | ⟨bm, h, rfl⟩
  · exact h.cellv 0 _ rfl
  · exact h.1.cellv 0 _ rfl
theorem LkAt.c1 {w : World} {b wide next passed : Nat} {bk : Nat → Bool} {fp : Nat → Prop} (h : LkAt w b wide next passed bk fp) : w.cell? ⟨b, 1, none⟩ = some (.int .u64 next) := by
  rcases h with ⟨h, h2, h3, rfl⟩ | ⟨bm, h, rfl⟩
  · exact h.cellv 1 _ rfl
  · exact h.1.cellv 1 _ rfl
theorem LkAt.c2 {w : World} {b wide next passed : Nat} {bk : Nat → Bool} {fp : Nat → Prop} (h : LkAt w b wide next passed bk fp) : w.cell? ⟨b, 2, none⟩ = some (.int .u64 passed) := by
  rcases h with ⟨h, rfl, h3, rfl⟩ | ⟨bm, h, rfl⟩
  · exact h.cellv 2 _ rfl
  · exact h.1.cellv 2 _ rfl
theorem LkAt.fr {w : World} {b wide next passed : Nat} {bk : Nat → Bool} {fp : Nat → Prop} (h : LkAt w b wide next passed bk fp) (i : Nat) : w.frozen? ⟨b, i, none⟩ = false := by
  rcases h with ⟨h, rfl, h3, rfl⟩ | ⟨bm, h, rfl⟩
  · exact h.free i
  · exact h.1.free i

theorem lk_handed (w : World) (b wide next passed : Nat) (bk : Nat → Bool) (fp : Nat → Prop) (h : LkAt w b wide next passed bk fp) :
    Calls Try.prog 21 #[.pointer (some ⟨b, 0, none⟩)] w (HandedPost w b wide next passed bk fp) := by
  rcases h with ⟨h, rfl, rfl, rfl⟩ | ⟨bm, h, rfl⟩
  · exact lk_handed_new w b wide next h
  · exact lk_handed_old w b wide next passed bm bk h

/-- who has it -/
def lkHas (wide next passed : Nat) (bk : Nat → Bool) (t : Nat) : Bool := decide (t < next) && decide (t < passed + wide) && !bk t

/-- a step that may make the map, and changes nothing that is seen -/
def LkSame (w : World) (b wide next passed : Nat) (bk : Nat → Bool) (fp : Nat → Prop) (w' : World) : Prop :=
  ∃ fp', LkAt w' b wide next passed bk fp' ∧ Chg fp w w' ∧ ∀ k, fp' k → fp k ∨ w.heap.size ≤ k

def HasPost (w : World) (b wide next passed : Nat) (bk : Nat → Bool) (fp : Nat → Prop) (r : Bool) (e : Ending) (w' : World) : Prop :=
  e = .returned (.bool r) ∧ LkSame w b wide next passed bk fp w'

theorem plainElem_bool_inv {H : Type} {P : Program} {e : TypeId} (he : P.underlying e = some .bool) {v : Value} {z : DataW H × List MemPlace} (h : plainElem P e v = some z) : ∃ a, v = .bool a ∧ z = (.lit (.bool a), []) := by
  unfold plainElem at h
  rw [he] at h
  cases v <;> simp at h
  exact ⟨_, rfl, h.symm⟩

theorem lk_zero (w : World) : (zeroValue LkE).run Try.prog w = .ok (.bool false) w := by kernel_rfl

/-- the look-up of a ticket -/
theorem LkMap.look {w : World} {bm n : Nat} {bk : Nat → Bool} (h : LkMap w bm n bk) (t : Nat) (ht : (Lit.int .u64 (t : Int)).wf = true) :
    (Instr.lookup LkM (.map (some bm)) (.int .u64 t) false).run Try.prog w = .ok (.bool (bk t)) w := by
  obtain ⟨D, h, e⟩ := h
  obtain ⟨v, ps, hrun, hv⟩ := h.lookup lk_keyed Try.underlying59 (lk_zero w) (plainElem_bool Try.underlying4 false) (keyOf_int_mk Try.underlying33 ht)
  obtain ⟨a, rfl, ha⟩ := plainElem_bool_inv Try.underlying4 hv
  simp only [Prod.mk.injEq] at ha
  rw [e t] at ha
  have := ha.1
  simp at this
  rw [hrun, this]

theorem lk_has_no1 (w : World) (b wide next passed t : Nat) (bk : Nat → Bool) (fp : Nat → Prop) (h : LkAt w b wide next passed bk fp) (ht : next ≤ t) :
    Calls Try.prog 13 #[.pointer (some ⟨b, 0, none⟩), .int .u64 t] w (HasPost w b wide next passed bk fp false) := by
  have hd : decide ((t : Int) < (next : Int)) = false := by simp; omega
  have hd' : decide (t < next) = false := by simp; omega
  have c0 := h.c0
  have c1 := h.c1
  have H := Lib.hid h; clear h
  go_enter Try.func13, Try.ntmps13
  go_wp2_with fail
  go_quiet ((go_at_call 19; exact quiet_left (at_load ⟨b, 1, none⟩ next _ c1)))
  go_wp2
  go_ret
  exact ⟨rfl, fp, H.out.chg ((Chg.refl (fun _ => False) w).drewN _) (fun _ _ h => h), (Chg.refl _ _).drewN _, fun k hk => .inl hk⟩

theorem lk_has_no2 (w : World) (b wide next passed t : Nat) (bk : Nat → Bool) (fp : Nat → Prop) (h : LkAt w b wide next passed bk fp) (ht : t < next) (hp : passed + wide ≤ t) (hb : next ≤ 4611686018427387904) :
    Calls Try.prog 13 #[.pointer (some ⟨b, 0, none⟩), .int .u64 t] w (HasPost w b wide next passed bk fp false) := by
  have hd : decide ((t : Int) < (next : Int)) = true := by simp; omega
  have hd' : decide (t < next) = true := by simp; omega
  have he : decide ((t : Int) < (passed : Int) + (wide : Int)) = false := by simp; omega
  have he' : decide (t < passed + wide) = false := by simp; omega
  have hs : (passed : Int) + (wide : Int) ≤ 4611686018427387904 := by omega
  have c0 := h.c0
  have c1 := h.c1
  have c2 := h.c2
  have H := Lib.hid h; clear h
  clear hb ht hp
  go_enter Try.func13, Try.ntmps13
  go_wp2_with fail
  go_quiet (first | (go_at_call_of 19 (⟨b, 1, none⟩ : Addr); exact quiet_left (at_load ⟨b, 1, none⟩ next _ c1)) | (go_at_call_of 19 (⟨b, 2, none⟩ : Addr); exact quiet_left (at_load ⟨b, 2, none⟩ passed _ c2)))
  go_wp2
  go_ret
  exact ⟨rfl, fp, H.out.chg ((Chg.refl (fun _ => False) w).drewN _) (fun _ _ h => h), (Chg.refl _ _).drewN _, fun k hk => .inl hk⟩

set_option maxHeartbeats 800000 in
theorem lk_has_yes (w : World) (b wide next passed t : Nat) (bk : Nat → Bool) (fp : Nat → Prop) (h : LkAt w b wide next passed bk fp) (ht : t < next) (hp : t < passed + wide) (hb : next ≤ 4611686018427387904) (hq : passed + wide ≤ 4611686018427387904) :
    Calls Try.prog 13 #[.pointer (some ⟨b, 0, none⟩), .int .u64 t] w (HasPost w b wide next passed bk fp (!bk t)) := by
  have hd : decide ((t : Int) < (next : Int)) = true := by simp; omega
  have hd' : decide (t < next) = true := by simp; omega
  have he : decide ((t : Int) < (passed : Int) + (wide : Int)) = true := by simp; omega
  have he' : decide (t < passed + wide) = true := by simp; omega
  have hs : (passed : Int) + (wide : Int) ≤ 4611686018427387904 := by omega
  have hw : (Lit.int .u64 (t : Int)).wf = true := by simp [Lit.wf, IntKind.min, IntKind.max, IntKind.signed, IntKind.bits]; omega
  have hsum : IntKind.u64.wrap ((passed : Int) + (wide : Int)) = (passed : Int) + (wide : Int) := by
    unfold IntKind.wrap
    simp [IntKind.bits, IntKind.signed]
    omega
  have c0 := h.c0
  have c1 := h.c1
  have c2 := h.c2
  have H := Lib.hid h; clear h
  clear hb ht hp hq
  go_enter Try.func13, Try.ntmps13
  go_wp2_with fail
  go_region_held3 (fun w' => w'.cell? ⟨b, 0, none⟩ = some (.int .u64 wide)) (first | (simp [*]; done) | assumption)
    (first
      | (go_at_call_of 19 (⟨b, 1, none⟩ : Addr); refine (at_load ⟨b, 1, none⟩ next _ ?_).mono ?_; exact c1; rintro e w' ⟨rfl, rfl⟩)
      | (go_at_call_of 19 (⟨b, 2, none⟩ : Addr); refine (at_load ⟨b, 2, none⟩ passed _ ?_).mono ?_; exact c2; rintro e w' ⟨rfl, rfl⟩)
      | (go_at_call 21; refine (lk_handed _ b wide next passed bk fp ?_).mono ?_; exact H.out.chg ((Chg.refl (fun _ => False) w).drew) (fun _ _ h => h); rintro e w' ⟨bm, rfl, hO, hC, hN⟩; have hC0 := hO.1.cellv 0 _ rfl; have hL := hO.2.2.look t hw))
  go_wp2
  go_ret
  exact ⟨rfl, _, .inr ⟨bm, hO, rfl⟩, (Chg.refl fp w).drew.trans hC, fun k hk => by rcases hk with rfl | rfl; exact .inl H.out.own; simpa using hN⟩
end Go.Proofs.Ythlhdgbpfdaodaa
