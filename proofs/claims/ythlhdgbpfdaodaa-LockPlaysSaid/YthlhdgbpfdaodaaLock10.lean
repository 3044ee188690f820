/-
  A lock and the reference's lock side by side.
-/
import Derived.Test.YthlhdgbpfdaodaaLock9
namespace Go.Proofs.Ythlhdgbpfdaodaa
open Go.RowKit Go.Maps

/-- both, made since w0, apart from each other -/
def Bo (w0 : World) (b r wide n1 p1 : Nat) (bk : Nat → Bool) (L : List Bool) (p2 : Nat) (w : World) : Prop :=
  ∃ fp sa cap, LkAt w b wide n1 p1 bk fp ∧ RfAt w r wide L p2 sa cap ∧ (∀ k, fp k → ¬ RfFp r sa k) ∧ (∀ k, fp k → w0.heap.size ≤ k) ∧ (∀ k, RfFp r sa k → w0.heap.size ≤ k) ∧ Chg (fun _ => False) w0 w

theorem Bo.chg {w0 w : World} {b r wide n1 p1 p2 : Nat} {bk : Nat → Bool} {L : List Bool} (h : Bo w0 b r wide n1 p1 bk L p2 w) : Chg (fun _ => False) w0 w := by
  obtain ⟨_, _, _, _, _, _, _, _, h⟩ := h
  exact h
theorem Bo.drewN {w0 w : World} {b r wide n1 p1 p2 : Nat} {bk : Nat → Bool} {L : List Bool} (h : Bo w0 b r wide n1 p1 bk L p2 w) (n : Nat) : Bo w0 b r wide n1 p1 bk L p2 (w.drewN n) := by
  obtain ⟨fp, sa, cap, h1, h2, h3, h4, h5, h6⟩ := h
  exact ⟨fp, sa, cap, h1.chg ((Chg.refl (fun _ => False) w).drewN n) (fun _ _ h => h), h2.chg ((Chg.refl (fun _ => False) w).drewN n) (fun _ _ h => h), h3, h4, h5, h6.drewN n⟩
theorem Bo.drew {w0 w : World} {b r wide n1 p1 p2 : Nat} {bk : Nat → Bool} {L : List Bool} (h : Bo w0 b r wide n1 p1 bk L p2 w) : Bo w0 b r wide n1 p1 bk L p2 w.drew := by
  obtain ⟨fp, sa, cap, h1, h2, h3, h4, h5, h6⟩ := h
  exact ⟨fp, sa, cap, h1.chg ((Chg.refl (fun _ => False) w).drew) (fun _ _ h => h), h2.chg ((Chg.refl (fun _ => False) w).drew) (fun _ _ h => h), h3, h4, h5, h6.drew⟩

/-- the lock goes on -/
theorem bo_lk {w0 w w' : World} {b r wide n1 p1 p2 n1' p1' cap : Nat} {bk bk' : Nat → Bool} {L : List Bool} {fp : Nat → Prop} {sa : Option Addr}
    (h1 : LkAt w b wide n1 p1 bk fp) (h2 : RfAt w r wide L p2 sa cap) (h3 : ∀ k, fp k → ¬ RfFp r sa k) (h4 : ∀ k, fp k → w0.heap.size ≤ k) (h5 : ∀ k, RfFp r sa k → w0.heap.size ≤ k) (h6 : Chg (fun _ => False) w0 w)
    (s : LkStep w b wide fp n1' p1' bk' w') : Bo w0 b r wide n1' p1' bk' L p2 w' := by
  have _ := h1
  obtain ⟨fp', hL, hC, hN⟩ := s
  have hs := h6.size
  refine ⟨fp', sa, cap, hL, h2.chg hC (fun k hk hf => h3 k hf hk), fun k hk hf => ?_, fun k hk => ?_, h5, h6.trans' hC (fun i hi => .inr (h4 i hi))⟩
  · rcases hN k hk with h | h
    · exact h3 k h hf
    · have := h2.fps k hf; omega
  · rcases hN k hk with h | h
    · exact h4 k h
    · omega

/-- the reference's lock goes on -/
theorem bo_rf {w0 w w' : World} {b r wide n1 p1 p2 p2' cap : Nat} {bk : Nat → Bool} {L L' : List Bool} {fp : Nat → Prop} {sa : Option Addr}
    (h1 : LkAt w b wide n1 p1 bk fp) (h2 : RfAt w r wide L p2 sa cap) (h3 : ∀ k, fp k → ¬ RfFp r sa k) (h4 : ∀ k, fp k → w0.heap.size ≤ k) (h5 : ∀ k, RfFp r sa k → w0.heap.size ≤ k) (h6 : Chg (fun _ => False) w0 w)
    (s : RfStep w r wide sa L' p2' w') : Bo w0 b r wide n1 p1 bk L' p2' w' := by
  have _ := h2
  obtain ⟨sa', cap', hL, hC, hN⟩ := s
  have hs := h6.size
  refine ⟨fp, sa', cap', h1.chg hC h3, hL, fun k hk hf => ?_, h4, fun k hk => ?_, h6.trans' hC (fun i hi => .inr (h5 i hi))⟩
  · rcases hN k hf with h | h
    · exact h3 k hk h
    · have := h1.fps k hk; omega
  · rcases hN k hk with h | h
    · exact h5 k h
    · omega

section
variable {w0 w : World} {b r wide n1 p1 p2 : Nat} {bk : Nat → Bool} {L : List Bool}

theorem bo_ask1 (h : Bo w0 b r wide n1 p1 bk L p2 w) (hb : n1 < 4611686018427387904) :
    Calls Try.prog 9 #[.pointer (some ⟨b, 0, none⟩)] w fun e w' => e = .returned (.tuple #[.int .u64 n1, .int .i64 0]) ∧ Bo w0 b r wide (n1 + 1) p1 bk L p2 w' := by
  obtain ⟨fp, sa, cap, h1, h2, h3, h4, h5, h6⟩ := h
  exact (lk_ask w b wide n1 p1 bk fp h1 hb).mono fun _ _ ⟨he, hs⟩ => ⟨he, bo_lk h1 h2 h3 h4 h5 h6 hs⟩

theorem bo_ask2 (h : Bo w0 b r wide n1 p1 bk L p2 w) (hl : L.length + 1 ≤ 140737488355328) :
    Calls Try.prog 10 #[.pointer (some ⟨r, 0, none⟩)] w fun e w' => e = .returned (.int .u64 L.length) ∧ Bo w0 b r wide n1 p1 bk (L ++ [false]) p2 w' := by
  obtain ⟨fp, sa, cap, h1, h2, h3, h4, h5, h6⟩ := h
  exact (rf_ask w r wide p2 L sa cap h2 hl).mono fun _ _ ⟨he, hs⟩ => ⟨he, bo_rf h1 h2 h3 h4 h5 h6 hs⟩

theorem bo_has1 (h : Bo w0 b r wide n1 p1 bk L p2 w) (t : Nat) (hb : n1 ≤ 4611686018427387904) (hq : p1 + wide ≤ 4611686018427387904) :
    Calls Try.prog 13 #[.pointer (some ⟨b, 0, none⟩), .int .u64 t] w fun e w' => e = .returned (.bool (lkHas wide n1 p1 bk t)) ∧ Bo w0 b r wide n1 p1 bk L p2 w' := by
  obtain ⟨fp, sa, cap, h1, h2, h3, h4, h5, h6⟩ := h
  exact (lk_has w b wide n1 p1 t bk fp h1 hb hq).mono fun _ _ ⟨he, hs⟩ => ⟨he, bo_lk h1 h2 h3 h4 h5 h6 hs⟩

theorem bo_has2 (h : Bo w0 b r wide n1 p1 bk L p2 w) (t : Nat) (hb : L.length ≤ 4611686018427387904) (hq : p2 + wide ≤ 4611686018427387904) :
    Calls Try.prog 14 #[.pointer (some ⟨r, 0, none⟩), .int .u64 t] w fun e w' => e = .returned (.bool (rfHas wide p2 L t)) ∧ Bo w0 b r wide n1 p1 bk L p2 w' := by
  have H := h
  obtain ⟨fp, sa, cap, h1, h2, h3, h4, h5, h6⟩ := h
  exact (rf_has w r wide p2 t L sa cap h2 hq hb).mono fun _ _ ⟨he, n, hs⟩ => ⟨he, hs ▸ H.drewN n⟩

theorem bo_pass1_no (h : Bo w0 b r wide n1 p1 bk L p2 w) (t : Nat) (hb : n1 ≤ 4611686018427387904) (hq : p1 + wide ≤ 4611686018427387904) (hr : lkHas wide n1 p1 bk t = false) :
    Calls Try.prog 11 #[.pointer (some ⟨b, 0, none⟩), .int .u64 t] w fun e w' => e = .returned (.int .i64 1) ∧ Bo w0 b r wide n1 p1 bk L p2 w' := by
  obtain ⟨fp, sa, cap, h1, h2, h3, h4, h5, h6⟩ := h
  exact (lk_pass_no w b wide n1 p1 t bk fp h1 hb hq hr).mono fun _ _ ⟨he, hs⟩ => ⟨he, bo_lk h1 h2 h3 h4 h5 h6 hs⟩

theorem bo_pass1_yes (h : Bo w0 b r wide n1 p1 bk L p2 w) (t : Nat) (hb : n1 ≤ 4611686018427387904) (hq : p1 + wide ≤ 4611686018427387904) (hr : lkHas wide n1 p1 bk t = true) :
    Calls Try.prog 11 #[.pointer (some ⟨b, 0, none⟩), .int .u64 t] w fun e w' => e = .returned (.int .i64 0) ∧ Bo w0 b r wide n1 (p1 + 1) (bkSet bk t) L p2 w' := by
  obtain ⟨fp, sa, cap, h1, h2, h3, h4, h5, h6⟩ := h
  have ht : t < n1 := by simp [lkHas] at hr; omega
  exact (lk_pass_yes w b wide n1 p1 t bk fp h1 hb hq (u64_wf t (by omega)) hr).mono fun _ _ ⟨he, hs⟩ => ⟨he, bo_lk h1 h2 h3 h4 h5 h6 hs⟩

theorem bo_pass2_no (h : Bo w0 b r wide n1 p1 bk L p2 w) (t : Nat) (hb : L.length ≤ 4611686018427387904) (hq : p2 + wide ≤ 4611686018427387904) (hr : rfHas wide p2 L t = false) :
    Calls Try.prog 12 #[.pointer (some ⟨r, 0, none⟩), .int .u64 t] w fun e w' => e = .returned (.int .i64 1) ∧ Bo w0 b r wide n1 p1 bk L p2 w' := by
  have H := h
  obtain ⟨fp, sa, cap, h1, h2, h3, h4, h5, h6⟩ := h
  exact (rf_pass_no w r wide p2 t L sa cap h2 hq hb hr).mono fun _ _ ⟨he, n, hs⟩ => ⟨he, hs ▸ H.drewN n⟩

theorem bo_pass2_yes (h : Bo w0 b r wide n1 p1 bk L p2 w) (t : Nat) (hb : L.length ≤ 4611686018427387904) (hq : p2 + wide ≤ 4611686018427387904) (hr : rfHas wide p2 L t = true) :
    Calls Try.prog 12 #[.pointer (some ⟨r, 0, none⟩), .int .u64 t] w fun e w' => e = .returned (.int .i64 0) ∧ Bo w0 b r wide n1 p1 bk (L.set t true) (p2 + 1) w' := by
  obtain ⟨fp, sa, cap, h1, h2, h3, h4, h5, h6⟩ := h
  exact (rf_pass_yes w r wide p2 t L sa cap h2 hq hb hr).mono fun _ _ ⟨he, hs⟩ => ⟨he, bo_rf h1 h2 h3 h4 h5 h6 hs⟩

theorem bo_waiting1 (h : Bo w0 b r wide n1 p1 bk L p2 w) (hp : p1 ≤ n1) (hb : n1 ≤ 4611686018427387904) :
    Calls Try.prog 15 #[.pointer (some ⟨b, 0, none⟩)] w fun e w' => e = .returned (.int .u64 ((n1 : Int) - p1)) ∧ Bo w0 b r wide n1 p1 bk L p2 w' := by
  have H := h
  obtain ⟨fp, sa, cap, h1, h2, h3, h4, h5, h6⟩ := h
  exact (lk_waiting w b wide n1 p1 bk fp h1 hp hb).mono fun _ _ ⟨he, n, hs⟩ => ⟨he, hs ▸ H.drewN n⟩

theorem bo_waiting2 (h : Bo w0 b r wide n1 p1 bk L p2 w) (hp : p2 ≤ L.length) (hb : L.length ≤ 4611686018427387904) :
    Calls Try.prog 16 #[.pointer (some ⟨r, 0, none⟩)] w fun e w' => e = .returned (.int .u64 ((L.length : Int) - p2)) ∧ Bo w0 b r wide n1 p1 bk L p2 w' := by
  have H := h
  obtain ⟨fp, sa, cap, h1, h2, h3, h4, h5, h6⟩ := h
  exact (rf_waiting w r wide p2 L sa cap h2 hp hb).mono fun _ _ ⟨he, n, hs⟩ => ⟨he, hs ▸ H.drewN n⟩

theorem bo_let1 (h : Bo w0 b r wide n1 p1 bk L p2 w) (hq : p1 + wide ≤ 4611686018427387904) :
    Calls Try.prog 17 #[.pointer (some ⟨b, 0, none⟩)] w fun e w' => e = .returned (.int .u64 (min (n1 : Int) ((p1 : Int) + wide))) ∧ Bo w0 b r wide n1 p1 bk L p2 w' := by
  have H := h
  obtain ⟨fp, sa, cap, h1, h2, h3, h4, h5, h6⟩ := h
  exact (lk_let w b wide n1 p1 bk fp h1 hq).mono fun _ _ ⟨he, hs⟩ => ⟨he, hs ▸ H.drew⟩

theorem bo_let2 (h : Bo w0 b r wide n1 p1 bk L p2 w) (hb : L.length ≤ 4611686018427387904) (hq : p2 + wide ≤ 4611686018427387904) :
    Calls Try.prog 18 #[.pointer (some ⟨r, 0, none⟩)] w fun e w' => e = .returned (.int .u64 (min (L.length : Int) ((p2 : Int) + wide))) ∧ Bo w0 b r wide n1 p1 bk L p2 w' := by
  have H := h
  obtain ⟨fp, sa, cap, h1, h2, h3, h4, h5, h6⟩ := h
  exact (rf_let w r wide p2 L sa cap h2 hq hb).mono fun _ _ ⟨he, n, hs⟩ => ⟨he, hs ▸ H.drewN n⟩
end

/-- at a round's head: both are the same; k acts were done -/
def LpAt (w0 : World) (b r wide k : Nat) (w : World) : Prop :=
  ∃ L : List Bool, L.length ≤ k ∧ Bo w0 b r wide L.length (L.count true) (fun t => L.getD t false) L (L.count true) w

theorem bk_app (L : List Bool) : (fun t => (L ++ [false]).getD t false) = fun t => L.getD t false := by
  funext t
  simp only [List.getD]
  by_cases h : t < L.length
  · rw [List.getElem?_append_left h]
  · rw [List.getElem?_append_right (by omega), List.getElem?_eq_none (l := L) (by omega)]
    by_cases h2 : t - L.length = 0
    · rw [h2]; rfl
    · rw [List.getElem?_eq_none (by simp; omega)]
theorem cnt_app (L : List Bool) : (L ++ [false]).count true = L.count true := by simp
theorem bk_set (L : List Bool) (t : Nat) (h : t < L.length) : (fun k => (L.set t true).getD k false) = bkSet (fun k => L.getD k false) t := by
  funext k
  simp only [List.getD, bkSet, List.getElem?_set]
  by_cases hk : k = t
  · subst hk; simp [h]
  · have : ¬ t = k := fun e => hk e.symm
    simp [hk, this]
theorem cnt_set (L : List Bool) (t : Nat) (h : t < L.length) (hf : L.getD t false = false) : (L.set t true).count true = L.count true + 1 := by
  rw [List.count_set h]
  have e : L[t] = false := by simpa [List.getD, List.getElem?_eq_getElem h] using hf
  simp [e]
end Go.Proofs.Ythlhdgbpfdaodaa
