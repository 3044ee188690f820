/-
  The pool of frames: New by its contract; a pool whose blocks are hidden.
-/
import Derived.Test.YtodjmfmenfncdaaPool2
namespace Go.Proofs.Ytodjmfmenfncdaa
open Go.RowKit Go.Maps

def frAll (first k : Nat) : Nat → Bool := fun f => decide (first ≤ f ∧ f < k)
theorem frAll_step (first k : Nat) (h : first ≤ k) : setF (frAll first k) k true = frAll first (k + 1) := by
  funext g
  unfold setF frAll
  by_cases e : g = k
  · rw [if_pos e, decide_eq_true (by omega)]
  · rw [if_neg e]; congr 1; rw [eq_iff_iff]; omega
theorem freeD_none (first F : Nat) (_h : first ≤ F) : FreeD (.map []) first F (frAll first first) := by
  have hf : ∀ f, frAll first first f = false := fun f => by unfold frAll; exact decide_eq_false (by omega)
  refine ⟨tidy_empty, fun f => by rw [hf f]; rfl, ?_, fun f h => by rw [hf f] at h; cases h⟩
  have : ∀ n, cnt (frAll first first) first n = 0 := fun n => by
    induction n with
    | zero => rfl
    | succ n ih => rw [cnt, ih, hf]; rfl
  rw [this]; rfl

theorem pool_new_no (w : World) (p F t : Nat) (o : Option Nat) (V : Nat → Nat) (h : MemA w p o F V t) (first : Int) (hf : first < 0 ∨ (F : Int) < first) :
    Calls Try.prog 44 #[.pointer (some ⟨p, 0, none⟩), .int .i64 first] w fun e w' => e = .returned (.tuple #[.pointer none, .int .i64 1]) ∧ w = w' := by
  have HFR := Lib.hid (phys_frames w p F t o V h)
  clear h
  by_cases h1 : first < 0
  · have d1 : decide (first < (0 : Int)) = true := decide_eq_true h1
    clear hf
    go_enter Try.func44, Try.ntmps44
    go_wp2_with fail
    go_ret2
    exact ⟨rfl, rfl⟩
  · have d1 : decide (first < (0 : Int)) = false := decide_eq_false h1
    have h2 : (F : Int) < first := by omega
    have d2 : decide ((F : Int) < first) = true := decide_eq_true h2
    clear hf h1
    go_enter Try.func44, Try.ntmps44
    go_wp2_with fail
    refine HFR.out.mono ?_
    rintro e w' ⟨rfl, rfl⟩
    go_wp2_with fail
    go_ret2
    exact ⟨rfl, rfl⟩
theorem pool_new_nil (w : World) (first : Int) :
    Calls Try.prog 44 #[.pointer none, .int .i64 first] w fun e w' => e = .returned (.tuple #[.pointer none, .int .i64 1]) ∧ w = w' := by
  go_enter Try.func44, Try.ntmps44
  go_wp2_with fail
  go_ret2
  exact ⟨rfl, rfl⟩

def PoolNew (w : World) (p F first t : Nat) (o : Option Nat) (V : Nat → Nat) (e : Ending) (w' : World) : Prop :=
  ∃ q b, e = .returned (.tuple #[.pointer (some ⟨q, 0, none⟩), .int .i64 0]) ∧ PoolA w' q b p o F first (frAll first F) V t ∧ w.heap.size ≤ q ∧ w.heap.size ≤ b ∧ Chg (fun _ => False) w w'

set_option maxRecDepth 100000 in
set_option maxHeartbeats 800000 in
theorem pool_new (w : World) (p F first t : Nat) (hF : F ≤ 256) (o : Option Nat) (V : Nat → Nat) (h : MemA w p o F V t) (hf : first ≤ F) :
    Calls Try.prog 44 #[.pointer (some ⟨p, 0, none⟩), .int .i64 first] w (PoolNew w p F first t o V) := by
  have hmm := @run_makeMap Try.prog
  have HFR := fun W (H : MemA W p o F V t) => Lib.hid (phys_frames W p F t o V H)
  have HFR := Lib.hid HFR
  have d1 : decide ((first : Int) < 0) = false := decide_eq_false (by omega)
  have d2 : decide ((F : Int) < (first : Int)) = false := decide_eq_false (by omega)
  have d3 : ¬ F < first := by omega
  have HP := Lib.hid h
  have l0 := h.lt
  have HL := Lib.hid l0
  clear h l0
  go_enter Try.func44, Try.ntmps44
  go_wp2_with fail
  refine (HFR.out w HP.out).out.mono ?_
  rintro e w' ⟨rfl, rfl⟩
  have hw1 := Blk.new (w.alloc (.map #[] 0)) #[.pointer (some ⟨p, 0, none⟩), .int .i64 first, .map (some w.heap.size)] PoolT
  have hs1 : (w.alloc (.map #[] 0)).heap.size = w.heap.size + 1 := by simp
  rw [hs1] at hw1
  have hw2 : Chg (fun _ => False) w ((w.alloc (.map #[] 0)).alloc (.cells #[.pointer (some ⟨p, 0, none⟩), .int .i64 first, .map (some w.heap.size)] PoolT)) := ((Chg.refl _ w).alloc _).alloc _
  have hw3 : FreeMap ((w.alloc (.map #[] 0)).alloc (.cells #[.pointer (some ⟨p, 0, none⟩), .int .i64 first, .map (some w.heap.size)] PoolT)) w.heap.size first F (frAll first first) := by
    refine FreeMap.chg (S := fun _ => False) ⟨.map [], ?_, freeD_none first F hf⟩ ((Chg.refl _ _).alloc _) (fun h => h)
    exact World.ownsMap_made _ _ _ _
  have HW := Lib.hid (show PoolA ((w.alloc (.map #[] 0)).alloc (.cells #[.pointer (some ⟨p, 0, none⟩), .int .i64 first, .map (some w.heap.size)] PoolT)) (w.heap.size + 1) w.heap.size p o F first (frAll first first) V t from
    ⟨HP.out.chg hw2 (fun _ _ h => h), hw1, hw3, fun k a => by have := HL.out k a; omega, by omega, hf⟩)
  have HC := Lib.hid hw2
  clear hs1 hw1 hw2 hw3
  go_wp2_with fail
  go_loopw [7] (fun i wr => ∃ k : Nat, first ≤ k ∧ k ≤ F ∧ i = .int .i64 k ∧ Hid (PoolA wr (w.heap.size + 1) w.heap.size p o F first (frAll first k) V t ∧ Chg (fun _ => False) w wr)) (fun i _ => F - (intOf i).toNat)
  case atStart => exact ⟨first, Nat.le_refl _, hf, rfl, HW.out, HC.out⟩
  case round =>
    obtain ⟨k, hk1, hk2, rfl, HB⟩ := hrel
    obtain ⟨hp, hc⟩ := HB.out
    have c2 := hp.blk.cellv 2 _ rfl
    have HPr := Lib.hid hp; have HCr := Lib.hid hc
    by_cases hlt : k < F
    · obtain ⟨D, hown, hD⟩ := hp.fm
      have hkey : keyOf Try.prog InT (.int .i64 (k : Int)) = some (.int .i64 (k : Int)) := keyOf_int_mk Try.underlying3 (WalkArith.wf_i64 (by omega))
      have hn : Maps.size D < maxLen := by have := hD.size; unfold maxLen; omega
      have hfk : frAll first k k = false := by unfold frAll; exact decide_eq_false (by omega)
      have HD := Lib.hid (hD.put hk1 hlt hfk (.agg []))
      clear hp hc hD HB hfk
      go_wp2_with fail
      refine (HFR.out wr HPr.out.mem).out.mono ?_
      rintro e w' ⟨rfl, rfl⟩
      go_wp2_with (at_mapUpdate; refine wpList_mapUpdate_own _ rfl _ _ _ FmT rfl InT UnT lawInt Try.underlying90 (unitElem (H := Unit)) w.heap.size (Maps.size D) D rfl hown hn _ _ _ rfl rfl hkey _ [] unitElem_mk ?_; intro w2 hown2 hgrow2; have hp2 := Lib.hid (HPr.out.turned (grown_chg hgrow2) ⟨_, owns_tight hown2, HD.out⟩); have G2 := Lib.hid (HCr.out.trans' (grown_chg hgrow2) (fun i h => .inr (Nat.le_of_eq h.symm))); clear hgrow2 hown2 hown)
      go_roundw
      case rel => exact ⟨k + 1, by omega, by omega, by go_num, (frAll_step first k hk1) ▸ hp2.out, G2.out⟩
      case measure => simp [intOf]; omega
    · obtain rfl : k = F := by omega
      clear hp hc HB
      go_wp2_with fail
      refine (HFR.out wr HPr.out.mem).out.mono ?_
      rintro e w' ⟨rfl, rfl⟩
      go_wp2_with fail
      go_ret2
      exact ⟨_, _, rfl, HPr.out, by omega, Nat.le_refl _, HCr.out⟩

/-- a pool that owns none of the blocks of S -/
def Pl (S : Nat → Prop) (w : World) (q p F first : Nat) (Fr : Nat → Bool) (V : Nat → Nat) : Prop :=
  ∃ b o t, t < 18446744073709551616 ∧ PoolA w q b p o F first Fr V t ∧ (∀ k, PoolOwn q b p o k → ¬ S k) ∧ ∀ k, S k → k < w.heap.size
def StepF (S : Nat → Prop) (w : World) (q p F first : Nat) (Fr : Nat → Bool) (V : Nat → Nat) (v : Value) (e : Ending) (w' : World) : Prop := e = .returned v ∧ Pl S w' q p F first Fr V ∧ Chg (fun k => ¬ S k) w w'
theorem Pl.step {S : Nat → Prop} {w w' : World} {q b p F first t : Nat} {o : Option Nat} {Fr : Nat → Bool} {V : Nat → Nat} {v : Value} {e : Ending} (ht : t < 18446744073709551616) (hB : ∀ k, PoolOwn q b p o k → ¬ S k) (hS : ∀ k, S k → k < w.heap.size)
    (k : PoolK w q b p F first t o Fr V v e w') : StepF S w q p F first Fr V v e w' := by
  obtain ⟨he, o', hp, hc, hk⟩ := k
  refine ⟨he, ⟨b, o', t, ht, hp, ?_, fun k h => Nat.lt_of_lt_of_le (hS k h) hc.size⟩, hc.mono hB⟩
  rintro k (a | a | a)
  · exact hB k (.inl a)
  · exact hB k (.inr (.inl a))
  · rcases hk k a with a | a
    · exact hB k (.inr (.inr a))
    · intro h; have := hS k h; omega
theorem Pl.nothing {S : Nat → Prop} {w w' : World} {q p F first : Nat} {Fr : Nat → Bool} {V : Nat → Nat} (h : Pl S w q p F first Fr V) (c : Chg (fun _ => False) w w') : Pl S w' q p F first Fr V := by
  obtain ⟨b, o, t, ht, hp, hB, hS⟩ := h
  exact ⟨b, o, t, ht, hp.chg c (fun _ _ h => h), hB, fun k h => Nat.lt_of_lt_of_le (hS k h) c.size⟩
theorem Pl.small {S : Nat → Prop} {w : World} {q p F first : Nat} {Fr : Nat → Bool} {V : Nat → Nat} (h : Pl S w q p F first Fr V) : ∀ i, V i < 256 := by
  obtain ⟨b, o, t, ht, hp, hB, hS⟩ := h
  exact hp.mem.small
theorem Pl.le {S : Nat → Prop} {w : World} {q p F first : Nat} {Fr : Nat → Bool} {V : Nat → Nat} (h : Pl S w q p F first Fr V) : first ≤ F := by
  obtain ⟨b, o, t, ht, hp, hB, hS⟩ := h
  exact hp.le
theorem Pl.fr {S : Nat → Prop} {w : World} {q p F first : Nat} {Fr : Nat → Bool} {V : Nat → Nat} (h : Pl S w q p F first Fr V) : ∀ f, Fr f = true → first ≤ f ∧ f < F := by
  obtain ⟨b, o, t, ht, hp, hB, hS⟩ := h
  obtain ⟨D, _, hD⟩ := hp.fm
  exact hD.2.2.2
theorem f_give_no {S : Nat → Prop} {w : World} {q p F first : Nat} {Fr : Nat → Bool} {V : Nat → Nat} (h : Pl S w q p F first Fr V) (hF : F ≤ 256) (f : Int) (hf : ¬ ((first : Int) ≤ f ∧ f < (F : Int) ∧ Fr f.toNat = false)) :
    Calls Try.prog 58 #[.pointer (some ⟨q, 0, none⟩), .int .i64 f] w (StepF S w q p F first Fr V (.int .i64 1)) := by
  have h' := h
  obtain ⟨b, o, t, ht, hp, hB, hS⟩ := h
  exact (pool_give_no w q b p F first t hF o Fr V hp f hf).mono fun _ _ ⟨h1, h2⟩ => ⟨h1, h'.nothing h2, h2.mono (fun _ h => h.elim)⟩
theorem f_give_yes {S : Nat → Prop} {w : World} {q p F first : Nat} {Fr : Nat → Bool} {V : Nat → Nat} (h : Pl S w q p F first Fr V) (hF : F ≤ 256) (f : Nat) (h1 : first ≤ f) (h2 : f < F) (hf : Fr f = false) :
    Calls Try.prog 58 #[.pointer (some ⟨q, 0, none⟩), .int .i64 f] w (StepF S w q p F first (setF Fr f true) (clV F V f) (.int .i64 0)) := by
  obtain ⟨b, o, t, ht, hp, hB, hS⟩ := h
  exact (pool_give_yes w q b p F first t hF o Fr V hp f h1 h2 hf).mono fun _ _ k => Pl.step ht hB hS k
theorem f_take_none {S : Nat → Prop} {w : World} {q p F first : Nat} {Fr : Nat → Bool} {V : Nat → Nat} (h : Pl S w q p F first Fr V) (hF : F ≤ 256) (hno : ∀ g, first ≤ g → g < F → Fr g = false) :
    Calls Try.prog 47 #[.pointer (some ⟨q, 0, none⟩)] w (StepF S w q p F first Fr V (.tuple #[.int .i64 0, .int .i64 4])) := by
  have h' := h
  obtain ⟨b, o, t, ht, hp, hB, hS⟩ := h
  exact (pool_take_none w q b p F first t hF o Fr V hp hno).mono fun _ _ ⟨h1, h2⟩ => ⟨h1, h'.nothing h2, h2.mono (fun _ h => h.elim)⟩
theorem f_take_some {S : Nat → Prop} {w : World} {q p F first : Nat} {Fr : Nat → Bool} {V : Nat → Nat} (h : Pl S w q p F first Fr V) (hF : F ≤ 256) (f : Nat) (hf1 : first ≤ f) (hf2 : f < F) (hfr : Fr f = true) (hno : ∀ g, first ≤ g → g < f → Fr g = false) :
    Calls Try.prog 47 #[.pointer (some ⟨q, 0, none⟩)] w (StepF S w q p F first (setF Fr f false) (clV F V f) (.tuple #[.int .i64 f, .int .i64 0])) := by
  obtain ⟨b, o, t, ht, hp, hB, hS⟩ := h
  exact (pool_take_some w q b p F first t hF o Fr V hp f hf1 hf2 hfr hno).mono fun _ _ k => Pl.step ht hB hS k
theorem f_taken {S : Nat → Prop} {w : World} {q p F first : Nat} {Fr : Nat → Bool} {V : Nat → Nat} (h : Pl S w q p F first Fr V) (hF : F ≤ 256) (f : Int) :
    Calls Try.prog 75 #[.pointer (some ⟨q, 0, none⟩), .int .i64 f] w (StepF S w q p F first Fr V (.bool (decide ((first : Int) ≤ f ∧ f < (F : Int)) && !Fr f.toNat))) := by
  have h' := h
  obtain ⟨b, o, t, ht, hp, hB, hS⟩ := h
  exact (pool_taken w q b p F first t hF o Fr V hp f).mono fun _ _ ⟨h1, h2⟩ => ⟨h1, h'.nothing h2, h2.mono (fun _ h => h.elim)⟩
theorem f_left {S : Nat → Prop} {w : World} {q p F first : Nat} {Fr : Nat → Bool} {V : Nat → Nat} (h : Pl S w q p F first Fr V) :
    Calls Try.prog 22 #[.pointer (some ⟨q, 0, none⟩)] w fun e w' => e = .returned (.int .i64 (cnt Fr first (F - first) : Nat)) ∧ w = w' := by
  obtain ⟨b, o, t, ht, hp, hB, hS⟩ := h
  exact pool_left w q b p F first t o Fr V hp
theorem f_mem {S : Nat → Prop} {w : World} {q p F first : Nat} {Fr : Nat → Bool} {V : Nat → Nat} (h : Pl S w q p F first Fr V) :
    Calls Try.prog 51 #[.pointer (some ⟨q, 0, none⟩)] w fun e w' => e = .returned (.pointer (some ⟨p, 0, none⟩)) ∧ w = w' := by
  obtain ⟨b, o, t, ht, hp, hB, hS⟩ := h
  exact pool_mem w q b p F first t o Fr V hp
theorem f_put {S : Nat → Prop} {w : World} {q p F first : Nat} {Fr : Nat → Bool} {V : Nat → Nat} (h : Pl S w q p F first Fr V) (hF : F ≤ 256) (at_ : Nat) (hw : at_ < 18446744073709551616) (s : ByteArray) (hs : s.size ≤ maxLen) :
    Calls Try.prog 60 #[.pointer (some ⟨p, 0, none⟩), .int .u64 at_, .string s] w (StepF S w q p F first Fr (ptV F V at_ s) (.int .i64 (cdP F at_ s))) := by
  obtain ⟨b, o, t, ht, hp, hB, hS⟩ := h
  exact (m_put w p F t hF o V hp.mem at_ hw s hs).mono fun _ _ k => Pl.step ht hB hS (hp.worked k)
theorem f_get {S : Nat → Prop} {w : World} {q p F first : Nat} {Fr : Nat → Bool} {V : Nat → Nat} (h : Pl S w q p F first Fr V) (hF : F ≤ 256) (at_ : Nat) (hw : at_ < 18446744073709551616) (n : Int) (hn : n ≤ 9223372036854775807) (x : Int) (hx : x = (at_ : Int)) :
    Calls Try.prog 19 #[.pointer (some ⟨p, 0, none⟩), .int .u64 x, .int .i64 n] w (StepF S w q p F first Fr V (.tuple #[.string (gtS F V at_ n), .int .i64 (cdG F at_ n)])) := by
  obtain ⟨b, o, t, ht, hp, hB, hS⟩ := h
  subst hx
  exact (m_get w p F t hF o V hp.mem at_ hw n hn).mono fun _ _ k => Pl.step ht hB hS (hp.worked k)
/-- New, of a memory that is new since B -/
def NewF (B : Nat) (w : World) (p F first : Nat) (V : Nat → Nat) (e : Ending) (w' : World) : Prop :=
  ∃ q, e = .returned (.tuple #[.pointer (some ⟨q, 0, none⟩), .int .i64 0]) ∧ Pl (fun k => k < B) w' q p F first (frAll first F) V ∧ Below B w w'
theorem f_new {B : Nat} {w : World} {p F : Nat} {V : Nat → Nat} (h : MT B w p F V) (hF : F ≤ 256) (first : Nat) (hf : first ≤ F) :
    Calls Try.prog 44 #[.pointer (some ⟨p, 0, none⟩), .int .i64 first] w (NewF B w p F first V) := by
  obtain ⟨t, ht, o, hm, hB⟩ := h
  have hp : B ≤ w.heap.size := Nat.le_of_lt (Nat.lt_of_le_of_lt (hB p (.inl rfl)) (hm.lt p (.inl rfl)))
  refine (pool_new w p F first t hF o V hm hf).mono fun e w' ⟨q, b, he, hP, hq, hb, hc⟩ => ⟨q, he, ⟨b, o, t, ht, hP, ?_, fun k (h : k < B) => by have := hc.size; omega⟩, hc.below hp (fun _ h => h.elim)⟩
  rintro k (rfl | rfl | a) (h : _ < B)
  · omega
  · omega
  · have := hB k a; omega
theorem f_new_no {B : Nat} {w : World} {p F : Nat} {V : Nat → Nat} (h : MT B w p F V) (first : Int) (hf : first < 0 ∨ (F : Int) < first) :
    Calls Try.prog 44 #[.pointer (some ⟨p, 0, none⟩), .int .i64 first] w fun e w' => e = .returned (.tuple #[.pointer none, .int .i64 1]) ∧ w = w' := by
  obtain ⟨t, ht, o, hm, hB⟩ := h
  exact pool_new_no w p F t o V hm first hf
end Go.Proofs.Ytodjmfmenfncdaa
